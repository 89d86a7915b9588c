/- Texts put together: Gd, Ge, Hb, Rn, Ro, Hc, Hd, Kb, He, Kc, Eb, Ep, Eq, Ka, Ec, Vb. -/
import Derived.Test.YtalaebjjleddaaaGreatFrd10
import Derived.Test.YtalaebjjleddaaaGreatFrd9
import Derived.Test.YtalaebjjleddaaaGreatFrd8
import Derived.Test.YtalaebjjleddaaaGreatFrd7
set_option linter.unusedVariables false
set_option linter.unusedSimpArgs false
namespace Go.Proofs
open Go Go.Abs
theorem zol {e:Entry}{lv:Int}(hv:if lv=0 then za2 e≠0 else zbf e=true) (h0:0 ≤ lv):zdd e lv=true ∧ (((zf7 e lv).length:Nat):Int)+e.key.length+3=zd5 e lv:=by
 by_cases hl:lv=0
 ·subst hl
  rw [if_pos rfl] at hv
  refine ⟨zm1 hv,?_⟩
  have hf:za2 e=1 ∨ za2 e=2 ∨ za2 e=3:=by
   have:za2 e=0 ∨ za2 e=1 ∨ za2 e=2 ∨ za2 e=3:=by
    unfold za2
    repeat' (first | split)
    all_goals simp
   omega
  have f0:¬ (0:Int)<0:=by omega
  unfold zd5 zf7
  rcases hf with hf | hf | hf
  ·have hs:zfc e=true:=by
    have hf':=hf
    by_cases q:zfc e=true
    ·exact q
    ·unfold za2 at hf'
     simp only [q,if_false] at hf'
     repeat' split at hf'
     all_goals simp_all
   simp [zfc] at hs
   obtain ⟨⟨⟨⟨⟨g1,g2⟩,g3⟩,g4⟩,_⟩,g5⟩:=hs
   have f1:¬ 0<e.over:=by omega
   have f2:¬ 0<e.child:=by omega
   simp only [f0,f1,f2,if_false,hf,if_true]
   simp [zam];omega
  ·have hs:zkb e=true:=by
    by_cases q:zkb e=true
    ·exact q
    ·unfold za2 at hf
     simp only [q,if_false] at hf
     repeat' split at hf
     all_goals simp_all
   simp [zkb,zaz,zar] at hs
   have f1:0<e.over:=by omega
   simp only [f0,f1,if_false,hf,if_true]
   simp [zam,Dg.bytes_len];omega
  ·have hs:zka e=true:=by
    by_cases q:zka e=true
    ·exact q
    ·unfold za2 at hf
     simp only [q,if_false] at hf
     repeat' split at hf
     all_goals simp_all
   simp [zka,zaz,zar] at hs
   have f1:¬ 0<e.over:=by omega
   have f2:0<e.child:=by omega
   simp only [f0,f1,f2,if_false,hf,if_true]
   simp [zam,Dg.bytes_len];omega
 ·rw [if_neg hl] at hv
  have hp:0<lv:=by omega
  refine ⟨by simp [zdd,hp,hv],?_⟩
  unfold zd5 zf7
  rw [if_pos hp,if_pos hp]
  simp [zam,Dg.bytes_len];omega
def cuts (l:List Entry) (lv:Int):Nat → Nat
 | 0=>0
 | k+1=>cuts l lv k+zdc l lv k
theorem zrk (l:List Entry) (lv:Int) {i:Nat}:∀ {k:Nat},i<k → zdc l lv i ≤ cuts l lv k
 | 0,h=>by omega
 | k+1,h=>by
  simp only [cuts]
  by_cases e:i=k
  ·subst e;omega
  ·have:=zrk l lv (i:=i) (k:=k) (by omega);omega
theorem zg7 {l:List Entry}{lv:Int}(hv:zc7 l lv=true) {j:Nat}(hj:j<l.length):(if lv=0 then za2 l[j]≠0 else zbf l[j]=true) ∧ (lv=0 ∨ j=0 ∨ l[j].key≠[]) ∧ (j=0 ∨ cmpS l[j-1].key l[j].key<0):=by
 obtain ⟨h1,h2,h3,h4⟩:=valid_iff.1 hv
 have:=h4 j hj
 rw [zcw hj] at this
 by_cases e0:lv=0
 ·subst e0
  simp at this
  exact ⟨by rw [if_pos rfl];exact this.1,.inl rfl,this.2⟩
 ·simp [e0] at this
  exact ⟨by rw [if_neg e0];exact this.1.1,.inr this.1.2,this.2⟩
theorem zii {l:List Entry}{lv:Int}(hv:zc7 l lv=true):∀ k,k ≤ l.length → ∃ s,wsum lv (l.take k)=some s ∧ (((zea l lv k).length:Nat):Int)+2*k+cuts l lv k=s
 | 0,_=>⟨0,by simp [wsum],by simp [zea,cuts]⟩
 | k+1,hk=>by
  obtain ⟨s,h1,h2⟩:=zii hv k (by omega)
  have hk':k<l.length:=by omega
  have hf:=(zg7 hv hk').1
  obtain ⟨g1,g2⟩:=zol hf (valid_iff.1 hv).1.1
  have hw:=zin hk' h1
  rw [if_pos g1] at hw
  refine ⟨_,hw,?_⟩
  have hc:=zpa (lv:=lv) hk'
  rw [zei l lv hk',List.length_append]
  unfold entB
  simp only [List.length_append,zam,List.length_drop,cuts]
  omega
theorem zep {tree lv:Int}{top:Bool}{l:List Entry}{base:Nat}(hf:fits l lv=true):(zlt tree lv top l base).length ≤ 496 ∧ zc7 l lv=true ∧ l.length ≤ 98:=by
 unfold fits at hf
 simp only [Bool.and_eq_true] at hf
 obtain ⟨hv,hw⟩:=hf
 obtain ⟨⟨q1,q2⟩,hne,q3,_⟩:=valid_iff.1 hv
 obtain ⟨s,h1,h2⟩:=zii hv l.length (Nat.le_refl _)
 rw [List.take_length] at h1
 have hws:zds l lv=some (6+s):=by unfold zds;rw [if_pos (within_iff.2 ⟨q1,q2⟩),h1];rfl
 rw [hws] at hw
 simp at hw
 have hpos:0<l.length:=by cases l with | nil=>exact (hne rfl).elim | cons=>simp
 have hcut:(shared l lv).length ≤ cuts l lv l.length:=by
  have h3:=zrk l lv (i:=l.length-1) (k:=l.length) (by omega)
  unfold zdc at h3
  rw [if_neg (by omega)] at h3
  exact h3
 have hents:5*(l.length:Int) ≤ s:=by
  have:∀ k,k ≤ l.length → ∀ s,wsum lv (l.take k)=some s → 5*(k:Int) ≤ s:=by
   intro k
   induction k with
   | zero=>intro _ s h;simp [wsum] at h;omega
   | succ k ih =>
    intro hk s h
    obtain ⟨s',g1,_⟩:=zii hv k (by omega)
    have hf:=(zg7 hv (show k<l.length by omega)).1
    have g2:=(zol hf q1).1
    have hw:=zin (show k<l.length by omega) g1
    rw [if_pos g2,h] at hw
    have:=ih (by omega) s' g1
    have:=(zfr g2).1
    have:=Option.some.inj hw
    omega
  exact this l.length (Nat.le_refl _) s (by rw [List.take_length];exact h1)
 refine ⟨?_,hv,by omega⟩
 unfold zlt
 simp only [List.length_append,zam,zen]
 omega
theorem zc4:∀ (l:List Freed),((zbe l).length:Int)+6=zbo l
 | []=>by simp [zbe,zbo]
 | f::r=>by
  have h1:=zc4 r
  have h2:=znp f
  simp only [zbe,zbo,List.flatMap_cons,List.map_cons,List.sum_cons,List.length_append] at h1 ⊢
  omega
theorem zhk {l:List Freed}(h:zdi l=true) {j:Nat}(hj:j<l.length):(0 ≤ l[j].ver ∧ l[j].ver ≤ 1099511627776) ∧ l[j].pages≠[] ∧ (j=0 ∨ l[j-1].ver<l[j].ver) ∧ zki l[j].pages=true:=by
 have:=List.all_eq_true.1 h j (List.mem_range.2 hj)
 rw [zc0 hj] at this
 simp [zar] at this
 exact ⟨this.1.1,this.1.2.1,this.1.2.2,this.2⟩
theorem zkq {l:List Int}(h:zki l=true) {j:Nat}(hj:j<l.length):(2 ≤ l[j] ∧ l[j] ≤ 4095) ∧ (j=0 ∨ l[j-1]<l[j]):=by
 have:=List.all_eq_true.1 h j (List.mem_range.2 hj)
 rw [ze2 hj] at this
 simp [zaz,zar] at this
 exact this
def Page.bodyB (p:Page):Str:=if p.kind=3 then zi3 p.next p.data else if p.kind=4 then zo0 p.next p.freed else zlt p.tree p.level p.top p.entries 12
def Page.headB (p:Page):Str:=85::(num p.kind.toNat 1++(num p.no.toNat 4++num p.ver.toNat 6))
def Page.used (p:Page):Str:=p.headB++p.bodyB
def Page.full (p:Page):Str:=p.used++za5 (508-p.used.length)
def Page.enc (p:Page):Str:=p.full++crcB p.full
theorem zgt (p:Page):p.headB.length=12:=by simp [Page.headB,zam]
theorem check_iff {p:Page}:p.check=true ↔ (2 ≤ p.no ∧ p.no ≤ 4095) ∧ (0 ≤ p.ver ∧ p.ver ≤ 1099511627776) ∧
  (((p.kind=1 ∨ p.kind=2) ∧ (0 ≤ p.tree ∧ p.tree ≤ 255) ∧ (p.kind=1 ↔ p.level=0) ∧ fits p.entries p.level=true ∧ p.next=0 ∧ p.data=[] ∧ p.freed=[]) ∨
  (p.kind=3 ∧ p.plain=true ∧ zcv p.next=true ∧ (1 ≤ p.data.length ∧ p.data.length ≤ 490) ∧ p.freed=[]) ∨
  (p.kind=4 ∧ p.plain=true ∧ zcv p.next=true ∧ p.data=[] ∧ zdi p.freed=true ∧ zbo p.freed ≤ 496)):=by
 unfold Page.check
 simp only [Bool.and_eq_true,zaz,zar,decide_eq_true_eq]
 by_cases h1:p.kind=1 ∨ p.kind=2
 ·have h3:p.kind≠3:=by omega
  have h4:p.kind≠4:=by omega
  simp only [h1,h3,h4,if_true,false_and,or_false,true_and]
  have e:(((p.kind==1)==(p.level==0))=true) ↔ (p.kind=1 ↔ p.level=0):=by
   have e1:(p.kind==1)=decide (p.kind=1):=rfl
   have e2:(p.level==0)=decide (p.level=0):=rfl
   rw [e1,e2]
   by_cases a:p.kind=1<;>by_cases b:p.level=0<;>simp [a,b]
  simp [e]
 ·by_cases h3:p.kind=3
  ·simp [h3,zar]
   omega
  ·by_cases h4:p.kind=4
   ·simp [h4]
   ·simp [h1,h3,h4]
theorem zdx {k:Int}(h:zcv k=true):0 ≤ k ∧ k ≤ 4095:=by
 simp [zcv,zaz,zar] at h;omega
theorem zrq {p:Page}(hc:p.check=true):p.bodyB.length ≤ 496:=by
 obtain ⟨_,_,h⟩:=check_iff.1 hc
 unfold Page.bodyB
 rcases h with ⟨h1,_,_,h2,_⟩ | ⟨h1,_,_,h2,_⟩ | ⟨h1,_,_,_,_,h2⟩
 ·rw [if_neg (by omega),if_neg (by omega)];exact (zep h2).1
 ·rw [if_pos h1];simp [zi3,zam];omega
 ·rw [if_neg (by omega),if_pos h1]
  have:=zc4 p.freed
  simp only [zo0,List.length_append,zam];omega
theorem zn4 {p:Page}(hc:p.check=true):p.used.length ≤ 508:=by
 have:=zrq hc
 unfold Page.used
 rw [List.length_append,zgt];omega
theorem zfz {p:Page}(hc:p.check=true):p.full.length=508:=by
 have:=zn4 hc
 unfold Page.full
 rw [List.length_append,za4];omega
theorem zma {p:Page}(hc:p.check=true):p.enc.length=512:=by
 unfold Page.enc
 rw [List.length_append,zfz hc];rfl
section
variable {n:Nat}{h:zaa}
theorem zwn (hn:9 ≤ n) (p:Page) (ok:p.Ok) (hc:p.check=false):C n 119 [p.av] h=some (.ret (.tup [.str [],i64 2]),h):=by
 obtain ⟨m,rfl⟩:=pre1 n
 have ec:∀ h,C m 143 [p.av] h=some (.ret (i64 2),h):=fun h=>by rw [zpd (by omega) p ok,hc];rfl
 refine zad F119 rfl rfl rfl (by simp [zao,zbv]) ?_
 conv=>whnf
 refine ldI (by rfl) ?_
 conv=>whnf
 refine clI (ec _) ?_
 conv=>whnf
 exact retP rfl rfl
theorem zs3 (hn:9 ≤ n) (p:Page) (ok:p.Ok) (hc:p.check=true):C n 119 [p.av] h=some (.ret (.tup [.str p.enc,i64 0]),h):=by
 obtain ⟨m,rfl⟩:=pre1 n
 have ec:∀ h,C m 143 [p.av] h=some (.ret (i64 0),h):=fun h=>by rw [zpd (by omega) p ok,hc];rfl
 obtain ⟨⟨n1,n2⟩,⟨v1,v2⟩,kinds⟩:=check_iff.1 hc
 have hk:1 ≤ p.kind ∧ p.kind ≤ 4:=by rcases kinds with ⟨h,_⟩ | ⟨h,_⟩ | ⟨h,_⟩<;>omega
 refine zad F119 rfl rfl rfl (by simp [zao,zbv]) ?_
 conv=>whnf
 refine ldI (by rfl) ?_
 conv=>whnf
 refine clI (ec _) ?_
 have e1:(([]:zaa)++[AB.cells 0 (some 79) p.cells 0]++[AB.cells 0 (some tWri) [.nilp,.lst 0 [] true] 0])[0]?=some (.cells 0 (some 79) p.cells 0):=rfl
 have w1:BW (([]:zaa)++[AB.cells 0 (some 79) p.cells 0]++[AB.cells 0 (some tWri) [.nilp,.lst 0 [] true] 0]) 1 [] [1]:=⟨_,_,_,rfl,.inl rfl,.inr rfl,.inl ⟨rfl,rfl,rfl⟩⟩
 have ne1:0 ∉ [1]:=by simp
 conv=>whnf
 refine byteC (n:=m) (hp:=([]:zaa)++[AB.cells 0 (some 79) p.cells 0]++[AB.cells 0 (some tWri) [.nilp,.lst 0 [] true] 0]) (by omega) w1 85 (by simp) fun h2 F2 w2=>?_
 have e2:=(w2.keep e1 ne1).1
 have ne2:=(w2.keep e1 ne1).2
 conv=>whnf
 refine ldI e2 ?_
 conv=>whnf
 refine numC (n:=m) (hp:=h2) (by omega) w2.1 p.kind (by omega) 1 (by omega) (by simp) fun h3 F3 w3=>?_
 have e3:=(w3.keep e2 ne2).1
 have ne3:=(w3.keep e2 ne2).2
 conv=>whnf
 refine ldI e3 ?_
 conv=>whnf
 refine numC (n:=m) (hp:=h3) (by omega) w3.1 p.no (by omega) 4 (by omega) (by simp [zam]) fun h4 F4 w4=>?_
 have e4:=(w4.keep e3 ne3).1
 have ne4:=(w4.keep e3 ne3).2
 conv=>whnf
 refine ldI e4 ?_
 conv=>whnf
 refine numC (n:=m) (hp:=h4) (by omega) w4.1 p.ver (by omega) 6 (by omega) (by simp [zam]) fun h5 F5 w5=>?_
 have e5:=(w5.keep e4 ne4).1
 have ne5:=(w5.keep e4 ne4).2
 have hb:BW h5 1 p.headB F5:=by
  have:=w5.1
  simpa [Page.headB,List.append_assoc] using this
 conv=>whnf
 refine ldI e5 ?_
 conv=>whnf
 have fin:∀ (s':LS) (h6:zaa) (F6:List Nat),Wrote h5 h6 1 F5 F6 p.used → LS.sub ⟨[(4,.ptr 1 0 0)],h6,[]⟩ s' → OkR Tryz.prog (C m) cfg0.inl KK 45 6 (zfd c119) s' (RetQ Tryz.prog [.tmp 2,.tmp 3] fun v' h'=>frz h' 64 v'=some (.tup [.str p.enc,i64 0])):=by
  intro s' h6 F6 w6 hs'
  have hul:=zn4 hc
  have w6':=w6.1
  refine cutI (by decide) rfl hs' ?_
  conv=>whnf
  refine clI (zn0 (n:=m) (by omega) w6') ?_
  conv=>whnf
  refine zI (z:=((508-p.used.length:Nat):Int)) (by rw [zae (by omega) (by omega)];omega) ?_
  conv=>whnf
  refine clI (zyj (n:=m) (by omega) (508-p.used.length) (by omega)) ?_
  conv=>whnf
  refine strC (n:=m) (hp:=h6) (by omega) w6' (za5 (508-p.used.length)) (by rw [za4];omega) fun h7 F7 w7=>?_
  have hfl:=zfz hc
  obtain ⟨h8,e8,w8⟩:=zg4 (n:=m) (by omega) w7.1 (by intro q;have:=congrArg List.length q;rw [show p.used++za5 (508-p.used.length)=p.full from rfl,hfl] at this;simp at this) (by rw [show p.used++za5 (508-p.used.length)=p.full from rfl,hfl];omega)
  conv=>whnf
  refine clI e8 ?_
  conv=>whnf
  refine clI (zo9 (n:=m) (by omega) p.full (by omega)) ?_
  conv=>whnf
  exact retP rfl rfl
 have hbo:=z76 (n:=m) (h:=h5) (by omega) p
 rcases kinds with ⟨k1,_,_,hf,_⟩ | ⟨k1,_,hl,⟨_,hd⟩,_⟩ | ⟨k1,_,hl,_,hfr,hli⟩
 ·have kb:p.body=.ifc 296 (.agg (zgo p.tree p.level p.top p.entries p.esh.sz p.esh.c)):=by unfold Page.body;rw [if_neg (by omega),if_neg (by omega)]
  have kB:p.bodyB=zlt p.tree p.level p.top p.entries 12:=by unfold Page.bodyB;rw [if_neg (by omega),if_neg (by omega)]
  obtain ⟨_,hv,h98⟩:=zep (tree:=0) (top:=true) (base:=0) hf
  obtain ⟨h6,F6,e6,w6⟩:=z65 (n:=m) (by omega) hb p.tree p.level p.top (by rcases check_iff.1 hc with ⟨_,_,⟨_,⟨q,_⟩,_⟩ | ⟨q,_⟩ | ⟨q,_⟩⟩<;>omega) p.entries p.esh.sz ok.esz p.esh.c hv (by omega) (by rw [zgt];omega)
  rw [kb] at hbo
  refine clI hbo ?_
  conv=>whnf
  refine ivI (by kernel_rfl) (by kernel_rfl) e6 ?_
  rw [zgt] at w6
  exact fin _ h6 F6 (by unfold Page.used;rw [kB];exact w6) ⟨rfl,rfl,rfl⟩
 ·have kb:p.body=.ifc 292 (.agg [i64 p.next,.str p.data]):=by unfold Page.body;rw [if_pos k1]
  have kB:p.bodyB=zi3 p.next p.data:=by unfold Page.bodyB;rw [if_pos k1]
  obtain ⟨h6,F6,e6,w6⟩:=z3k (n:=m) (by omega) hb p.next (zdx hl).1 p.data (by rw [zgt];omega)
  rw [kb] at hbo
  refine clI hbo ?_
  conv=>whnf
  refine ivI (by kernel_rfl) (by kernel_rfl) e6 ?_
  exact fin _ h6 F6 (by unfold Page.used;rw [kB];exact w6) ⟨rfl,rfl,rfl⟩
 ·have kb:p.body=.ifc 294 (.agg [i64 p.next,.lst p.fsh.sz (p.freed.map Freed.av) p.fsh.c]):=by unfold Page.body;rw [if_neg (by omega),if_pos k1]
  have kB:p.bodyB=zo0 p.next p.freed:=by unfold Page.bodyB;rw [if_neg (by omega),if_pos k1]
  have hfl:=zc4 p.freed
  have hfn:(p.freed.length:Int)*8 ≤ zbo p.freed:=by
   have:∀ l:List Freed,(l.length:Int)*8 ≤ zbo l:=by
    intro l
    induction l with
    | nil=>simp [zbo]
    | cons f r ih=>simp only [zbo,List.map_cons,List.sum_cons,List.length_cons] at ih ⊢;omega
   exact this _
  obtain ⟨h6,F6,e6,w6⟩:=z7e (n:=m) (by omega) hb p.next (zdx hl).1 p.freed p.fsh.sz ok.fsz p.fsh.c (fun f hf=>by
   obtain ⟨j,hj,rfl⟩:=List.getElem_of_mem hf
   obtain ⟨q1,_,_,q2⟩:=zhk hfr hj
   refine ⟨(ok.fr _ hf).1,q1.1,fun k hk=>?_⟩
   obtain ⟨i,hi,rfl⟩:=List.getElem_of_mem hk
   have:=(zkq q2 hi).1
   omega) (by rw [zgt];omega)
  rw [kb] at hbo
  refine clI hbo ?_
  conv=>whnf
  refine ivI (by kernel_rfl) (by kernel_rfl) e6 ?_
  exact fin _ h6 F6 (by unfold Page.used;rw [kB];exact w6) ⟨rfl,rfl,rfl⟩
theorem z0r (hn:9 ≤ n) (p:Page) (ok:p.Ok):C n 119 [p.av] h=some (.ret (.tup [.str (if p.check then p.enc else []),i64 (if p.check then 0 else 2)]),h):=by
 cases hc:p.check with
 | true=>exact zs3 hn p ok hc
 | false=>exact zwn hn p ok hc
end
def zh0 (s:Str):Bool:=decide (s.length=512)&&(decide (s.getD 0 0=85)&&(decide (s.take 508++crcB (s.take 508)=s)&&zar ((s.getD 1 0).toNat:Int) 1 4))
def zax:List AV:=[i64 0,i64 0,i64 0,i64 0,i64 0,.bool false,.lst 0 [] true,i64 0,.str [],.lst 0 [] true]
section
variable {n:Nat}{h:zaa}
theorem zxh (c:UInt8):((c.toNat:Int)=85) ↔ c=85:=by
 constructor
 ·intro h;exact UInt8.toNat_inj.1 (by simpa using (by omega:c.toNat=85))
 ·rintro rfl;rfl
theorem z4a (hn:4 ≤ n) (s:Str) (hb:zh0 s=false):C n 205 [.str s] h=some (.ret (.tup [i64 0,i64 0,i64 0,i64 8]),h):=by
 obtain ⟨m,rfl⟩:=pre1 n
 refine zad F205 rfl rfl rfl rfl ?_
 have fin:∀ {L:LT}{hp:zaa},lk L 2=some (i64 0) → lk L 3=some (i64 0) → lk L 4=some (i64 0) → lk L 5=some (i64 8) → RetQ Tryz.prog [.tmp 2,.tmp 3,.tmp 4,.tmp 5] (fun v' h'=>frz h' 64 v'=some (.tup [i64 0,i64 0,i64 0,i64 8])) .ret ⟨L,hp,[]⟩:=fun {L hp} h2 h3 h4 h5=>⟨rfl,[i64 0,i64 0,i64 0,i64 8],by simp [zcg,h2,h3,h4,h5],rfl⟩
 conv=>whnf
 refine brq (fun a=>?_) (fun a=>?_)
 ·conv=>whnf
  exact fin rfl rfl rfl rfl
 have hl:s.length=512:=by omega
 have e0:s.getD 0 0=s[0]'(by omega):=by simp [hl]
 have e1:s.getD 1 0=s[1]'(by omega):=by simp [hl]
 conv=>whnf
 refine strI (b:=s[0]'(by omega)) (by omega) (List.getElem?_eq_getElem (by omega)) ?_
 conv=>whnf
 refine brq (fun a0=>?_) (fun a0=>?_)
 ·conv=>whnf
  exact fin rfl rfl rfl rfl
 rw [zxh] at a0
 conv=>whnf
 refine zob (c:=508) (by omega) ?_
 conv=>whnf
 refine clI (zo9 (n:=m) (by omega) (s.take 508) (by rw [List.length_take];omega)) ?_
 conv=>whnf
 refine br (fun a2=>?_) (fun a2=>?_)
 ·conv=>whnf
  exact fin rfl rfl rfl rfl
 have a2':s.take 508++crcB (s.take 508)=s:=by simpa using a2
 conv=>whnf
 refine strI (b:=s[1]'(by omega)) (by omega) (List.getElem?_eq_getElem (by omega)) ?_
 conv=>whnf
 refine zI (z:=((s[1]'(by omega)).toNat:Int)) (by have:=(s[1]'(by omega)).toNat_lt;exact zae (by omega) (by omega)) ?_
 conv=>whnf
 refine clI (zc9 (by omega) _ _ _) ?_
 conv=>whnf
 refine brn (fun a3=>?_) (fun a3=>?_)
 ·conv=>whnf
  exact fin rfl rfl rfl rfl
 ·exfalso
  unfold zh0 at hb
  rw [e0,e1,a0,a3] at hb
  simp [hl,a2'] at hb
set_option maxRecDepth 10000 in
theorem zwq (hn:5 ≤ n) (s:Str) (hb:zh0 s=false):C n 162 [.str s] h=some (.ret (.tup [.agg zax,i64 8]),h):=by
 obtain ⟨m,rfl⟩:=pre1 n
 refine zad F162 rfl rfl rfl rfl ?_
 conv=>whnf
 refine clI (z4a (n:=m) (by omega) s hb) ?_
 conv=>whnf
 refine stJ (xs:=zax) (by rfl) ?_
 refine ⟨rfl,[.agg zax,i64 8],?_,rfl⟩
 have el:zce Tryz.prog [.cells 0 (some 79) zax 0] 79 (.ptr 0 0 0)=some (.agg zax):=zb9 (N:=10) (by kernel_rfl) rfl rfl
 show (match zce Tryz.prog [.cells 0 (some 79) zax 0] 79 (.ptr 0 0 0) with | some v=>some [v,i64 8] | none=>none)=_
 rw [el]
end
def cRec:RC:=match c230 with
 | .seq _ r=>r
 | _=>.skip
theorem D230:DefI 230 2 17 5 [] (some 5) [⟨some 2,none,.op (.mv (.t 5))⟩] cRec :=
 ⟨⟨Tryz.f230,Tryz.func230,by kernel_rfl,by kernel_rfl,by kernel_rfl⟩,by kernel_rfl,by decide,by kernel_rfl,by kernel_rfl,by kernel_rfl⟩
section
variable {m:Nat}{h:zaa}{P I:Nat}
theorem z6m:∃ h',zcl Tryz.prog (C m) (zcy Tryz.prog cfg0.inl (C m)) KK 230 [.ptr P 0 0,.ptr I 0 0] .ret h=some (.ret,h') ∧ h'=h:=by
 refine zf5 D230 rfl ?_
 conv=>whnf
 exact ⟨rfl,⟨[],rfl⟩,rfl⟩
theorem z6n {cs:List AV}{b:Bool}(hP:h[P]?=some (.cells 0 (some 79) cs 0)) (hc:cs.length=10) (hI:h[I]?=some (.cells 0 (some 4) [.bool b] 0)) :
  ∃ h',zcl Tryz.prog (C m) (zcy Tryz.prog cfg0.inl (C m)) KK 230 [.ptr P 0 0,.ptr I 0 0] (.pan badV false) h=some (.pan badV true,h') ∧ h'[P]?=some (.cells 0 (some 79) zax 0) ∧ h'[I]?=some (.cells 0 (some 4) [.bool false] 0):=by
 refine zf5 D230 rfl ?_
 conv=>whnf
 refine stJ (zaf _ _) ?_
 have lP:=zab hP
 have lI:=zab hI
 have nPI:P≠I:=by
  rintro rfl
  rw [hP] at hI
  have:=(AB.cells.inj (Option.some.inj hI)).2.1
  exact absurd (Option.some.inj this) (by decide)
 have e1:((h++[AB.cells 0 (some 314) [] 0]).set h.length (AB.cells 0 (some 314) (putAt [] 0 []) 0))[P]?=some (.cells 0 (some 79) cs 0):=by
  rw [List.getElem?_set_ne (by omega),List.getElem?_append_left lP];exact hP
 have e2:((h++[AB.cells 0 (some 314) [] 0]).set h.length (AB.cells 0 (some 314) (putAt [] 0 []) 0))[I]?=some (.cells 0 (some 4) [.bool b] 0):=by
  rw [List.getElem?_set_ne (by omega),List.getElem?_append_left lI];exact hI
 have hput:putAt cs 0 zax=zax:=by
  unfold putAt
  rw [List.take_zero,List.nil_append,List.drop_of_length_le (by rw [hc];decide),List.append_nil]
 conv=>whnf
 refine stI (xs:=zax) e1 (by rfl) (by rfl) (by rw [hc];decide) (by rfl) ?_
 conv=>whnf
 refine stJ (cs:=[.bool b]) (by rw [List.getElem?_set_ne nPI];exact e2) ?_
 refine ⟨rfl,⟨[],rfl⟩,?_,?_⟩
 ·rw [List.getElem?_set_ne (Ne.symm nPI),List.getElem?_set_self (zab e1),hput]
 ·rw [List.getElem?_set_self (by rw [List.length_set];exact zab e2)]
  rfl
end
inductive Bdy where
 | nd (x:NodeP)
 | pc (x:Nat × Str)
 | ls (x:Nat × List (Nat × List Nat))
def zfa (k:Nat) (s:Str):Option Bdy:=if k=1 ∨ k=2 then (zdw s).map fun x=>.nd x.1 else if k=3 then (zdv s).map fun x=>.pc x.1 else (zia s).map fun x=>.ls x.1
structure Blk where
 kind:Nat
 no:Nat
 ver:Nat
 bd:Bdy
def zd9 (s:Str):Option Blk:=(pnum 1 ((s.take 508).drop 1)).bind fun k=>(pnum 4 k.2).bind fun no=>(pnum 6 no.2).bind fun v=>(zfa k.1 v.2).map fun b=>⟨k.1,no.1,v.1,b⟩
def BdIs (q:Page):Bdy → Prop
 | .nd x=>q.tree=x.tree ∧ q.level=x.lv ∧ q.top=x.top ∧ q.entries=x.es ∧ q.next=0 ∧ q.data=[] ∧ q.freed=[]
 | .pc x=>q.tree=0 ∧ q.level=0 ∧ q.top=false ∧ q.entries=[] ∧ q.next=x.1 ∧ q.data=x.2 ∧ q.freed=[]
 | .ls x=>q.tree=0 ∧ q.level=0 ∧ q.top=false ∧ q.entries=[] ∧ q.next=x.1 ∧ q.data=[] ∧ FsAre q.freed x.2
structure BlkIs (q:Page) (x:Blk):Prop where
 kind:q.kind=x.kind
 no:q.no=x.no
 ver:q.ver=x.ver
 bd:BdIs q x.bd
 esz:q.entries≠[] → q.esh.sz=22
 fsz:q.freed≠[] → q.fsh.sz=2
def z1v (s:Str) (r:CRes):Prop:=match zd9 s with
 | none=>r=.ret (.tup [.agg zax,.bool false])
 | some x=>∃ q:Page,r=.ret (.tup [q.av,.bool true]) ∧ BlkIs q x
theorem gs {h:zaa}{x y:Nat}{v w:AB}(e:h[x]?=some v) (n:y≠x):(h.set y w)[x]?=some v:=by rw [List.getElem?_set_ne n];exact e
theorem ge {h:zaa}{x:Nat}{v w:AB}(e:h[x]?=some v):(h.set x w)[x]?=some w:=List.getElem?_set_self (zab e)
theorem zf1 {xs:List AV}(h:xs.all AV.scal=true):AV.cells? (.agg xs)=some xs:=by
 show (if xs.all AV.scal=true then some xs else none)=_
 rw [if_pos h]
theorem zhd {a b c d e g:Int}{f:Bool}{t:Str}{L L':AV}(h1:L.scal=true) (h2:L'.scal=true):AV.cells? (.agg [i64 a,i64 b,i64 c,i64 d,i64 e,.bool f,L,i64 g,.str t,L'])=some [i64 a,i64 b,i64 c,i64 d,i64 e,.bool f,L,i64 g,.str t,L']:=zf1 (by simp only [List.all_cons,List.all_nil,h1,h2,Bool.and_true];rfl)
theorem GBuf.one {el:TypeId}{sz:Nat}{h:zaa}{X:Nat}{L:AV}{rows:List (List AV)}{G:List Nat}(g:GBuf el sz h X L rows G):L.cells?=some [L] ∧ L.scal=true:=by
 rcases g.2 with ⟨rfl,_⟩ | ⟨eb,ver,frz,rfl,_⟩<;>exact ⟨rfl,rfl⟩
theorem zmp {h:zaa}{a b c d e g:Int}{f:Bool}{t:Str}{L M L' M':AV}(h1:Abs.frz h 62 L=some M) (h2:Abs.frz h 62 L'=some M') :
  allM (Abs.frz h 62) [i64 a,i64 b,i64 c,i64 d,i64 e,.bool f,L,i64 g,.str t,L']=some [i64 a,i64 b,i64 c,i64 d,i64 e,.bool f,M,i64 g,.str t,M']:=by
 have fi:∀ k:Int,Abs.frz h 62 (i64 k)=some (i64 k):=fun _=>rfl
 have fb:Abs.frz h 62 (.bool f)=some (.bool f):=rfl
 have fs:Abs.frz h 62 (.str t)=some (.str t):=rfl
 simp only [allM,fi,fb,fs,h1,h2]
theorem zo2 {h:zaa}:Abs.frz h 62 (.lst 0 [] true)=some (.lst 0 [] true):=rfl
theorem LV.stays' {h h':zaa}{Y b:Nat}{LL:AV}{ts:List FT}{G I:List Nat}(v:LV h Y LL ts G I) (hG:∀ z∈G,b ≤ z) (hI:∀ z∈I,b ≤ z) (e:∀ x,b ≤ x → x<h.length → h'[x]?=h[x]?):LV h' Y LL ts G I:=by
 refine ⟨⟨v.buf.1,?_⟩,fun t ht=>?_⟩
 ·rcases v.buf.2 with r | ⟨eb,ver,frz,h1,h2,h3,h4,rfl⟩
  ·exact .inl r
  ·exact .inr ⟨eb,ver,frz,h1,by rw [e eb (hG eb (by simp)) (zab h2)];exact h2,h3,h4,rfl⟩
 ·rcases v.inr t ht with r | ⟨eb,ver,frz,h1,h2,h3⟩
  ·exact .inl r
  ·exact .inr ⟨eb,ver,frz,h1,by rw [e eb (hI eb h3) (zab h2)];exact h2,h3⟩
structure RS (h:zaa) (cs:List AV) (t:Str):Prop where
 p:h[0]?=some (.cells 0 (some 79) cs 0)
 i:h[1]?=some (.cells 0 (some 4) [.bool false] 0)
 r:RDs h 2 t
theorem RS.next {h h':zaa}{cs:List AV}{t t':Str}(a:RS h cs t) (k:Keep h h' [2]) (r:RDs h' 2 t'):RS h' cs t':=⟨k.get a.p (by simp),k.get a.i (by simp),r⟩
theorem RS.set {h:zaa}{cs cs':List AV}{t:Str}(a:RS h cs t):RS (h.set 0 (.cells 0 (some 79) cs' 0)) cs' t:=⟨ge a.p,gs a.i (by decide),a.r.stays (Keep.set (F:=[0]) (by simp)) (by simp)⟩
section
variable {m:Nat}{s:Str}
abbrev zpk (m:Nat) (s:Str):Ex → LS → Prop:=EndQ Tryz.prog (C m) cfg0.inl [.cell 2 79,.cell 3 4] (fun r h=>∃ r',OutR r' r h ∧ z1v s r')
abbrev dfR:List DI:=[.fn 230 [.ptr 0 0 0,.ptr 1 0 0]]
theorem zus:fnOk Tryz.prog 230=true:=D230.fine
theorem zjs {h:zaa}{b:Nat}{cs:List AV}(hl:cs.length=10) (hb:h[b]?=some (.cells 0 (some 79) cs 0)):zce Tryz.prog h 79 (.ptr b 0 0)=some (.agg cs):=zb9 (N:=10) (by kernel_rfl) hl hb
theorem z1d {h:zaa}{b:Nat}{v:AV}(hb:h[b]?=some (.cells 0 (some 4) [v] 0)):zce Tryz.prog h 4 (.ptr b 0 0)=some v:=zks (N:=1) (by kernel_rfl) hb
theorem zeg {L:LT}{h:zaa}{cs:List AV}(hn:zd9 s=none) (h2:lk L 2=some (.ptr 0 0 0)) (h3:lk L 3=some (.ptr 1 0 0)) (hP:h[0]?=some (.cells 0 (some 79) cs 0)) (hc:cs.length=10) (hI:h[1]?=some (.cells 0 (some 4) [.bool false] 0)):zpk m s (.pan badV) ⟨L,h,dfR⟩:=by
 obtain ⟨h',e,g1,g2⟩:=z6n (m:=m) hP hc hI
 refine ⟨zus,_,h',e,[.agg zax,.bool false],?_,_,⟨_,rfl,rfl⟩,?_⟩
 ·simp only [zcg,h2,h3,zjs rfl g1,z1d g2]
 ·unfold z1v
  rw [hn]
  rfl
theorem zlk {L:LT}{h:zaa}{cs:List AV}(h2:lk L 2=some (.ptr 0 0 0)) (h3:lk L 3=some (.ptr 1 0 0)) (hP:h[0]?=some (.cells 0 (some 79) cs 0)) (hc:cs.length=10) (hI:h[1]?=some (.cells 0 (some 4) [.bool true] 0)) {q:Page}(hf:allM (frz h 62) cs=some q.cells) {x:Blk}(hx:zd9 s=some x) (hq:BlkIs q x):zpk m s .ret ⟨L,h,dfR⟩:=by
 obtain ⟨h',e,rfl⟩:=z6m (m:=m) (h:=h) (P:=0) (I:=1)
 refine ⟨zus,_,h',e,[.agg cs,.bool true],?_,.ret (.tup [q.av,.bool true]),⟨_,?_,rfl⟩,?_⟩
 ·simp only [zcg,h2,h3,zjs hc hP,z1d hI]
 ·show frz h' 64 (.tup [.agg cs,.bool true])=some (.tup [q.av,.bool true])
  have e1:frz h' 63 (.agg cs)=some q.av:=by
   unfold frz
   simp only [hf]
   rfl
  unfold frz allM allM
  simp only [e1]
  rfl
 ·unfold z1v
  rw [hx]
  exact ⟨q,rfl,hq⟩
abbrev zcd (k no v:Nat):List AV:=[i64 k,i64 no,i64 v,i64 0,i64 0,.bool false,.lst 0 [] true,i64 0,.str [],.lst 0 [] true]
set_option maxRecDepth 10000 in
theorem zyg (hn:6 ≤ m) {h3:zaa}{k no v:Nat}{t:Str}(a:RS h3 (zcd k no v) t) (hk:k=1 ∨ k=2) (hx:zd9 s=(zfa k t).map fun b=>⟨k,no,v,b⟩) :
  OkR Tryz.prog (C m) cfg0.inl KK 61 6 (zfd c206) ⟨[(2,.ptr 0 0 0),(3,.ptr 1 0 0),(4,.ptr 2 0 0)],h3,dfR⟩ (zpk m s):=by
 refine cutS (by decide) rfl ?_
 conv=>whnf
 refine ldI a.p ?_
 obtain ⟨r4,h4,eB,sB⟩:=z62 (n:=m) (by omega) a.r (k:Int) (by omega)
 have l3:=a.r.lt
 conv=>whnf
 cases hp:zdw t with
 | none =>
  rw [hp] at sB
  obtain ⟨rfl,k4⟩:=sB
  refine clP eB ?_
  exact zeg (by rw [hx];simp only [zfa,if_pos hk,hp,Option.map_none]) rfl rfl (k4.get a.p (by simp)) rfl (k4.get a.i (by simp))
 | some x =>
  obtain ⟨x,u⟩:=x
  rw [hp] at sB
  obtain ⟨X,L,G,rfl,r4,g4,k4,lX,gG⟩:=sB
  have g1:=g4.one
  have lG:=g4.lt lX
  have e0:=k4.get a.p (by simp)
  have eI:=k4.get a.i (by simp)
  have l0:=zab e0
  have l1:=zab eI
  refine clI eB ?_
  conv=>whnf
  refine stI (xs:=[i64 x.tree,i64 x.lv,.bool x.top,L]) (zaf _ _) (zf1 (by simp only [List.all_cons,List.all_nil,g1.2,Bool.and_true];rfl)) (by rfl) (by rfl) (by rfl) ?_
  have es:(h4++[AB.cells 0 (some 296) [i64 0,i64 0,.bool false,.lst 0 [] true] 0]).set h4.length (AB.cells 0 (some 296) (putAt [i64 0,i64 0,.bool false,.lst 0 [] true] 0 [i64 x.tree,i64 x.lv,.bool x.top,L]) 0)=h4++[AB.cells 0 (some 296) [i64 x.tree,i64 x.lv,.bool x.top,L] 0]:=by simp [putAt]
  have fin:∀ hf:zaa,(∀ y∈G,hf[y]?=h4[y]?) → hf[0]?=some (.cells 0 (some 79) [i64 k,i64 no,i64 v,i64 x.tree,i64 x.lv,.bool x.top,L,i64 0,.str [],.lst 0 [] true] 0) → hf[1]?=some (.cells 0 (some 4) [.bool true] 0) → ∀ Lt:LT,lk Lt 2=some (.ptr 0 0 0) → lk Lt 3=some (.ptr 1 0 0) → zpk m s .ret ⟨Lt,hf,dfR⟩:=fun hf hG hP hI Lt h2 h3=>by
   obtain ⟨sh,f1,f2⟩:=zup (g4.stays fun y hy _=>hG y hy) 60
   exact zlk (x:=⟨k,no,v,.nd x⟩) (q:=⟨k,no,v,x.tree,x.lv,x.top,sh,x.es,0,[],⟨0,true⟩,[]⟩) h2 h3 hP rfl hI (zmp f1 zo2) (by rw [hx];simp only [zfa,if_pos hk,hp,Option.map_some]) ⟨rfl,rfl,rfl,⟨rfl,rfl,rfl,rfl,rfl,rfl,rfl⟩,f2,fun h=>(h rfl).elim⟩
  have n0:(h4.length:Nat)≠0:=by omega
  have n1:(h4.length:Nat)≠1:=by omega
  have eX:=zag h4 (AB.cells 0 (some 296) [i64 0,i64 0,.bool false,.lst 0 [] true] 0) (AB.cells 0 (some 296) (putAt [i64 0,i64 0,.bool false,.lst 0 [] true] 0 [i64 x.tree,i64 x.lv,.bool x.top,L]) 0)
  have eP:=gs (w:=AB.cells 0 (some 296) (putAt [i64 0,i64 0,.bool false,.lst 0 [] true] 0 [i64 x.tree,i64 x.lv,.bool x.top,L]) 0) (za8 (x:=AB.cells 0 (some 296) [i64 0,i64 0,.bool false,.lst 0 [] true] 0) e0) n0
  have eJ:=gs (w:=AB.cells 0 (some 296) (putAt [i64 0,i64 0,.bool false,.lst 0 [] true] 0 [i64 x.tree,i64 x.lv,.bool x.top,L]) 0) (za8 (x:=AB.cells 0 (some 296) [i64 0,i64 0,.bool false,.lst 0 [] true] 0) eI) n1
  conv=>whnf
  refine ldI eX ?_
  conv=>whnf
  refine ldI eX ?_
  conv=>whnf
  refine ldI eX ?_
  conv=>whnf
  refine ldI eX ?_
  conv=>whnf
  refine stJ eP ?_
  conv=>whnf
  refine ⟨?_,?_⟩
  ·repeat' (conv=>whnf);first | exact ldI (gs eX n0.symm) rfl | refine ⟨?_,?_⟩
  conv=>whnf
  refine stJ (ge eP) ?_
  conv=>whnf
  refine ⟨?_,?_⟩
  ·repeat' (conv=>whnf);first | exact ldI (gs (gs eX n0.symm) n0.symm) rfl | refine ⟨?_,?_⟩
  conv=>whnf
  refine stJ (ge (ge eP)) ?_
  conv=>whnf
  refine ⟨?_,?_⟩
  ·repeat' (conv=>whnf);first | exact ldI (gs (gs (gs eX n0.symm) n0.symm) n0.symm) rfl | refine ⟨?_,?_⟩
  conv=>whnf
  refine stI (ge (ge (ge eP))) g1.1 (by rfl) (by rfl) (by rfl) ?_
  conv=>whnf
  refine ldI (ge (ge (ge (ge eP)))) ?_
  conv=>whnf
  refine stI (xs:=[i64 k,i64 no,i64 v,i64 x.tree,i64 x.lv,.bool x.top,L,i64 0,.str [],.lst 0 [] true]) (ge (ge (ge (ge eP)))) (zhd g1.2 rfl) (by rfl) (by rfl) (by rfl) ?_
  conv=>whnf
  refine stJ (gs (gs (gs (gs (gs eJ (by decide)) (by decide)) (by decide)) (by decide)) (by decide)) ?_
  refine fin _ (fun y hy=>?_) (gs (ge (ge (ge (ge (ge eP))))) (by decide)) (ge (gs (gs (gs (gs (gs eJ (by decide)) (by decide)) (by decide)) (by decide)) (by decide))) _ rfl rfl
  have y1:=gG y hy
  have y2:=lG y hy
  rw [List.getElem?_set_ne (by omega),List.getElem?_set_ne (by omega),List.getElem?_set_ne (by omega),List.getElem?_set_ne (by omega),List.getElem?_set_ne (by omega),List.getElem?_set_ne (by omega),List.getElem?_set_ne (by omega),List.getElem?_append_left y2]
set_option maxRecDepth 10000 in
theorem zvo (hn:6 ≤ m) {h3:zaa}{k no v:Nat}{t:Str}(a:RS h3 (zcd k no v) t) (hk:k=3) (hx:zd9 s=(zfa k t).map fun b=>⟨k,no,v,b⟩) :
  OkR Tryz.prog (C m) cfg0.inl KK 61 6 (zfd c206) ⟨[(2,.ptr 0 0 0),(3,.ptr 1 0 0),(4,.ptr 2 0 0)],h3,dfR⟩ (zpk m s):=by
 refine cutS (by decide) rfl ?_
 conv=>whnf
 refine ldI a.p ?_
 obtain ⟨r4,h4,eB,sB⟩:=(by rw [hk];exact z3i (n:=m) (by omega) a.r:∃ r h,C m 231 [.ptr 2 0 0,i64 (k:Nat)] h3=some (r,h) ∧ zhv (zdv t) (zu4 h3 2) (fun h=>Keep h3 h [2]) r h)
 have l3:=a.r.lt
 conv=>whnf
 cases hp:zdv t with
 | none =>
  rw [hp] at sB
  obtain ⟨rfl,k4⟩:=sB
  refine clP eB ?_
  exact zeg (by rw [hx];simp only [zfa,if_neg (show ¬(k=1 ∨ k=2) by omega),if_pos hk,hp,Option.map_none]) rfl rfl (k4.get a.p (by simp)) rfl (k4.get a.i (by simp))
 | some x =>
  obtain ⟨x,u⟩:=x
  rw [hp] at sB
  obtain ⟨rfl,r4,k4⟩:=sB
  have l4:=k4.1
  have e0:=k4.get a.p (by simp)
  have eI:=k4.get a.i (by simp)
  have l0:=zab e0
  have l1:=zab eI
  refine clI eB ?_
  conv=>whnf
  refine stI (xs:=[i64 x.1,.str x.2]) (zaf _ _) (zf1 (by simp only [List.all_cons,List.all_nil, Bool.and_true];rfl)) (by rfl) (by rfl) (by rfl) ?_
  have fin:∀ hf:zaa,hf[0]?=some (.cells 0 (some 79) [i64 k,i64 no,i64 v,i64 0,i64 0,.bool false,.lst 0 [] true,i64 x.1,.str x.2,.lst 0 [] true] 0) → hf[1]?=some (.cells 0 (some 4) [.bool true] 0) → ∀ Lt:LT,lk Lt 2=some (.ptr 0 0 0) → lk Lt 3=some (.ptr 1 0 0) → zpk m s .ret ⟨Lt,hf,dfR⟩:=fun hf hP hI Lt h2 h3=>by
   exact zlk (x:=⟨k,no,v,.pc x⟩) (q:=⟨k,no,v,0,0,false,⟨0,true⟩,[],x.1,x.2,⟨0,true⟩,[]⟩) h2 h3 hP rfl hI (zmp zo2 zo2) (by rw [hx];simp only [zfa,if_neg (show ¬(k=1 ∨ k=2) by omega),if_pos hk,hp,Option.map_some]) ⟨rfl,rfl,rfl,⟨rfl,rfl,rfl,rfl,rfl,rfl,rfl⟩,fun h=>(h rfl).elim,fun h=>(h rfl).elim⟩
  have n0:(h4.length:Nat)≠0:=by omega
  have n1:(h4.length:Nat)≠1:=by omega
  have eX:=zag h4 (AB.cells 0 (some 292) [i64 0,.str []] 0) (AB.cells 0 (some 292) (putAt [i64 0,.str []] 0 [i64 x.1,.str x.2]) 0)
  have eP:=gs (w:=AB.cells 0 (some 292) (putAt [i64 0,.str []] 0 [i64 x.1,.str x.2]) 0) (za8 (x:=AB.cells 0 (some 292) [i64 0,.str []] 0) e0) n0
  have eJ:=gs (w:=AB.cells 0 (some 292) (putAt [i64 0,.str []] 0 [i64 x.1,.str x.2]) 0) (za8 (x:=AB.cells 0 (some 292) [i64 0,.str []] 0) eI) n1
  conv=>whnf
  refine ldI eX ?_
  conv=>whnf
  refine ldI eX ?_
  conv=>whnf
  refine stJ eP ?_
  conv=>whnf
  refine ⟨?_,?_⟩
  ·repeat' (conv=>whnf);first | exact ldI (gs eX n0.symm) rfl | refine ⟨?_,?_⟩
  conv=>whnf
  refine stJ (ge eP) ?_
  conv=>whnf
  refine ldI (ge (ge eP)) ?_
  conv=>whnf
  refine stI (xs:=[i64 k,i64 no,i64 v,i64 0,i64 0,.bool false,.lst 0 [] true,i64 x.1,.str x.2,.lst 0 [] true]) (ge (ge eP)) (zhd rfl rfl) (by rfl) (by rfl) (by rfl) ?_
  conv=>whnf
  refine stJ (gs (gs (gs eJ (by decide)) (by decide)) (by decide)) ?_
  exact fin _ (gs (ge (ge (ge eP))) (by decide)) (ge (gs (gs (gs eJ (by decide)) (by decide)) (by decide))) _ rfl rfl
set_option maxRecDepth 10000 in
theorem zyh (hn:6 ≤ m) {h3:zaa}{k no v:Nat}{t:Str}(a:RS h3 (zcd k no v) t) (hk:¬(k=1 ∨ k=2)) (hk3:k≠3) (hx:zd9 s=(zfa k t).map fun b=>⟨k,no,v,b⟩) :
  OkR Tryz.prog (C m) cfg0.inl KK 61 6 (zfd c206) ⟨[(2,.ptr 0 0 0),(3,.ptr 1 0 0),(4,.ptr 2 0 0)],h3,dfR⟩ (zpk m s):=by
 refine cutS (by decide) rfl ?_
 conv=>whnf
 refine ldI a.p ?_
 obtain ⟨r4,h4,eB,sB⟩:=z7d (n:=m) (by omega) a.r (k:Int) (by omega) (by omega) (by omega)
 have l3:=a.r.lt
 conv=>whnf
 cases hp:zia t with
 | none =>
  rw [hp] at sB
  obtain ⟨rfl,k4⟩:=sB
  refine clP eB ?_
  exact zeg (by rw [hx];simp only [zfa,if_neg hk,if_neg hk3,hp,Option.map_none]) rfl rfl (k4.get a.p (by simp)) rfl (k4.get a.i (by simp))
 | some x =>
  obtain ⟨x,u⟩:=x
  rw [hp] at sB
  obtain ⟨Y,LL,ts,G,I,rfl,hts,r4,lv,k4,gG,gI⟩:=sB
  have l4:=k4.1
  have g1:=lv.buf.one
  have e0:=k4.get a.p (by simp)
  have eI:=k4.get a.i (by simp)
  have l0:=zab e0
  have l1:=zab eI
  refine clI eB ?_
  conv=>whnf
  refine stI (xs:=[i64 x.1,LL]) (zaf _ _) (zf1 (by simp only [List.all_cons,List.all_nil,g1.2,Bool.and_true];rfl)) (by rfl) (by rfl) (by rfl) ?_
  have fin:∀ hf:zaa,(∀ y,h3.length ≤ y → y<h4.length → hf[y]?=h4[y]?) → hf[0]?=some (.cells 0 (some 79) [i64 k,i64 no,i64 v,i64 0,i64 0,.bool false,.lst 0 [] true,i64 x.1,.str [],LL] 0) → hf[1]?=some (.cells 0 (some 4) [.bool true] 0) → ∀ Lt:LT,lk Lt 2=some (.ptr 0 0 0) → lk Lt 3=some (.ptr 1 0 0) → zpk m s .ret ⟨Lt,hf,dfR⟩:=fun hf hE hP hI Lt h2 h3=>by
   obtain ⟨sh,fs,f1,f2,f3⟩:=zuo (lv.stays' gG gI hE) 59
   rw [← hts] at f3
   exact zlk (x:=⟨k,no,v,.ls x⟩) (q:=⟨k,no,v,0,0,false,⟨0,true⟩,[],x.1,[],sh,fs⟩) h2 h3 hP rfl hI (zmp zo2 f1) (by rw [hx];simp only [zfa,if_neg hk,if_neg hk3,hp,Option.map_some]) ⟨rfl,rfl,rfl,⟨rfl,rfl,rfl,rfl,rfl,rfl,f3⟩,fun h=>(h rfl).elim,f2⟩
  have n0:(h4.length:Nat)≠0:=by omega
  have n1:(h4.length:Nat)≠1:=by omega
  have eX:=zag h4 (AB.cells 0 (some 294) [i64 0,.lst 0 [] true] 0) (AB.cells 0 (some 294) (putAt [i64 0,.lst 0 [] true] 0 [i64 x.1,LL]) 0)
  have eP:=gs (w:=AB.cells 0 (some 294) (putAt [i64 0,.lst 0 [] true] 0 [i64 x.1,LL]) 0) (za8 (x:=AB.cells 0 (some 294) [i64 0,.lst 0 [] true] 0) e0) n0
  have eJ:=gs (w:=AB.cells 0 (some 294) (putAt [i64 0,.lst 0 [] true] 0 [i64 x.1,LL]) 0) (za8 (x:=AB.cells 0 (some 294) [i64 0,.lst 0 [] true] 0) eI) n1
  conv=>whnf
  refine ldI eX ?_
  conv=>whnf
  refine ldI eX ?_
  conv=>whnf
  refine stJ eP ?_
  conv=>whnf
  refine ⟨?_,?_⟩
  ·repeat' (conv=>whnf);first | exact ldI (gs eX n0.symm) rfl | refine ⟨?_,?_⟩
  conv=>whnf
  refine stI (ge eP) g1.1 (by rfl) (by rfl) (by rfl) ?_
  conv=>whnf
  refine ldI (ge (ge eP)) ?_
  conv=>whnf
  refine stI (xs:=[i64 k,i64 no,i64 v,i64 0,i64 0,.bool false,.lst 0 [] true,i64 x.1,.str [],LL]) (ge (ge eP)) (zhd rfl g1.2) (by rfl) (by rfl) (by rfl) ?_
  conv=>whnf
  refine stJ (gs (gs (gs eJ (by decide)) (by decide)) (by decide)) ?_
  refine fin _ (fun y y1 y2=>?_) (gs (ge (ge (ge eP))) (by decide)) (ge (gs (gs (gs eJ (by decide)) (by decide)) (by decide))) _ rfl rfl
  rw [List.getElem?_set_ne (by omega),List.getElem?_set_ne (by omega),List.getElem?_set_ne (by omega),List.getElem?_set_ne (by omega),List.getElem?_set_ne (by omega),List.getElem?_append_left y2]
theorem z61 {P:Program}{call:zbp}{inl:FuncId → Bool}{k n d:Nat}{rc:RC}{Q:Ex → LS → Prop}{s t:LS}(hs:LS.sub t s) (hw:OkR P call inl k n d rc t Q):OkR P call inl k n d rc s Q:=by
 intro c hc tm H
 obtain ⟨e1,e2,e3⟩:=hs
 have:=hw c hc tm (HasL.sub e1 H)
 rw [← e2,← e3] at this
 exact this
set_option maxRecDepth 10000 in
theorem z6o (hn:6 ≤ m) (hl:s.length=512):∃ r,(∀ h,C (m+1) 206 [.str s] h=some (r,h)) ∧ z1v s r:=by
 refine zev F206 rfl rfl rfl rfl ?_
 conv=>whnf
 refine ⟨rfl,.fn 230 [.ptr 0 0 0,.ptr 1 0 0],rfl,?_⟩
 conv=>whnf
 refine zob (s:=s) (c:=508) (by omega) ?_
 have a0:RS [AB.cells 0 (some 79) zax 0,AB.cells 0 (some 4) [.bool false] 0,AB.cells 0 (some tRdr) [.str (s.take 508),i64 ((1:Nat):Int)] 0] zax ((s.take 508).drop 1):=⟨rfl,rfl,s.take 508,1,rfl,by rw [List.length_take];omega,by rw [List.length_take];omega,rfl⟩
 conv=>whnf
 refine zd8 (n:=m) (hp:=[AB.cells 0 (some 79) zax 0,AB.cells 0 (some 4) [.bool false] 0,AB.cells 0 (some tRdr) [.str (s.take 508),i64 ((1:Nat):Int)] 0]) (by omega) a0.r 1 (by omega) (fun h1 qh1 rh1 kh1=>?_) (fun q=>?_)
 rotate_left
 ·exact zeg (by simp only [zd9,pnum,if_neg (Nat.not_le.2 q),Option.bind_none]) rfl rfl a0.p rfl a0.i
 have b1:=a0.next kh1 rh1
 have a1:=b1.set (cs':=putAt zax (0+0) [i64 (zah (((s.take 508).drop 1).take 1))])
 conv=>whnf
 refine stJ b1.p ?_
 conv=>whnf
 refine zd8 (n:=m) (hp:=_) (by omega) a1.r 4 (by omega) (fun h2 qh2 rh2 kh2=>?_) (fun q=>?_)
 rotate_left
 ·exact zeg (by simp only [zd9,pnum,if_pos qh1,Option.bind_some,if_neg (Nat.not_le.2 q),Option.bind_none]) rfl rfl a1.p rfl a1.i
 have b2:=a1.next kh2 rh2
 have a2:=b2.set (cs':=putAt (putAt zax (0+0) [i64 (zah (((s.take 508).drop 1).take 1))]) (0+1) [i64 (zah ((((s.take 508).drop 1).drop 1).take 4))])
 conv=>whnf
 refine stJ b2.p ?_
 conv=>whnf
 refine zd8 (n:=m) (hp:=_) (by omega) a2.r 6 (by omega) (fun h3 qh3 rh3 kh3=>?_) (fun q=>?_)
 rotate_left
 ·exact zeg (by simp only [zd9,pnum,if_pos qh1,if_pos qh2,Option.bind_some,if_neg (Nat.not_le.2 q),Option.bind_none]) rfl rfl a2.p rfl a2.i
 have b3:=a2.next kh3 rh3
 have a3:=b3.set (cs':=zcd (zah (((s.take 508).drop 1).take 1)) (zah ((((s.take 508).drop 1).drop 1).take 4)) (zah (((((s.take 508).drop 1).drop 1).drop 4).take 6)))
 have hx:zd9 s=(zfa (zah (((s.take 508).drop 1).take 1)) (((((s.take 508).drop 1).drop 1).drop 4).drop 6)).map fun b=>⟨zah (((s.take 508).drop 1).take 1),zah ((((s.take 508).drop 1).drop 1).take 4),zah (((((s.take 508).drop 1).drop 1).drop 4).take 6),b⟩:=by
  simp only [zd9,pnum,if_pos qh1,if_pos qh2,if_pos qh3,Option.bind_some]
 have key:OkR Tryz.prog (C m) cfg0.inl KK 61 6 (zfd c206) ⟨[(2,.ptr 0 0 0),(3,.ptr 1 0 0),(4,.ptr 2 0 0)],h3.set 0 (.cells 0 (some 79) (zcd (zah (((s.take 508).drop 1).take 1)) (zah ((((s.take 508).drop 1).drop 1).take 4)) (zah (((((s.take 508).drop 1).drop 1).drop 4).take 6))) 0),dfR⟩ (zpk m s):=by
  by_cases hk:zah (((s.take 508).drop 1).take 1)=1 ∨ zah (((s.take 508).drop 1).take 1)=2
  ·exact zyg hn a3 hk hx
  ·by_cases hk3:zah (((s.take 508).drop 1).take 1)=3
   ·exact zvo hn a3 hk3 hx
   ·exact zyh hn a3 hk hk3 hx
 conv=>whnf
 refine stJ b3.p ?_
 refine z61 ?_ key
 exact ⟨⟨rfl,rfl,rfl⟩,rfl,rfl⟩
end
def Z512:List AV:=match c207 with
 | .seq (.ops (⟨_,_,.op (.alloc _ z)⟩::_)) _=>z
 | _=>[]
theorem z1k:Z512.length=512:=by kernel_rfl
theorem z3m {cs:List AV}{n:Nat}(h:cs.length=n):zjq true n cs 0=some (.agg cs):=by
 unfold zjq
 rw [if_pos rfl,if_pos (by omega),List.drop_zero,List.take_of_length_le (by omega)]
section
variable {n:Nat}{h:zaa}
set_option maxRecDepth 20000 in
theorem znx (hn:1 ≤ n) (s:Str) (hl:s.length=512):C n 207 [.str s] h=some (.ret (.agg (s.map u8)),h):=by
 obtain ⟨m,rfl⟩:=pre1 n
 refine zad F207 rfl rfl rfl rfl ?_
 have d1:([AB.cells 0 (some 282) Z512 0,AB.cells 0 (some 282) Z512 0]:zaa)[1]?=some (.cells 0 (some 282) Z512 0):=rfl
 conv=>whnf
 refine ⟨_,_,_,d1,⟨by rw [z1k];decide,by decide⟩,?_⟩
 refine slI (v:=.sl 1 1 0 0 512) rfl ?_
 conv=>whnf
 have ec:cpyR [AB.cells 0 (some 282) Z512 0,AB.cells 0 (some 282) Z512 0] 1 (.sl 1 1 0 0 512) (.str s)=some (.int .i64 512,some [AB.cells 0 (some 282) Z512 0,AB.cells 0 (some 282) (s.map u8) 0]):=by
  unfold cpyR
  simp only [zk7,lenA,hl,Nat.min_self]
  have hf:zbc [AB.cells 0 (some 282) Z512 0,AB.cells 0 (some 282) Z512 0] 1 512 (.str s)=some (s.map u8):=by
   have:=zl5 [AB.cells 0 (some 282) Z512 0,AB.cells 0 (some 282) Z512 0] s
   rwa [hl] at this
  rw [hf]
  simp only
  rw [if_neg (by decide)]
  rw [d1]
  simp only
  rw [if_pos ⟨trivial,trivial,Nat.le_refl _,by rw [List.length_map,hl,z1k];decide,zfs _⟩]
  have:putAt Z512 0 (s.map u8)=s.map u8:=by
   unfold putAt
   rw [List.take_zero,List.nil_append,List.drop_of_length_le (by rw [z1k,List.length_map,hl];decide),List.append_nil]
  rw [this];rfl
 refine ⟨_,ec,?_⟩
 conv=>whnf
 have e2:([AB.cells 0 (some 282) Z512 0,AB.cells 0 (some 282) (s.map u8) 0]:zaa)[1]?=some (.cells 0 (some 282) (s.map u8) 0):=rfl
 have e1:([AB.cells 0 (some 282) Z512 0,AB.cells 0 (some 282) (s.map u8) 0]:zaa)[0]?=some (.cells 0 (some 282) Z512 0):=rfl
 have hm:(s.map u8).length=512:=by rw [List.length_map];exact hl
 have hput:putAt Z512 0 (s.map u8)=s.map u8:=by
  unfold putAt
  rw [List.take_zero,List.nil_append,List.drop_of_length_le (by rw [z1k,hm];decide),List.append_nil]
 refine ldI e2 ?_
 refine zdr (z3m hm) ?_
 conv=>whnf
 refine stI (xs:=s.map u8) e1 (zf1 (zfs _)) hm (by rw [hm,z1k];rfl) (by rfl) ?_
 refine ⟨rfl,[.agg (s.map u8)],?_,?_⟩
 ·have:=zb9 (h:=([AB.cells 0 (some 282) Z512 0,AB.cells 0 (some 282) (s.map u8) 0]:zaa).set 0 (.cells 0 (some 282) (putAt Z512 0 (s.map u8)) 0)) (t:=282) (N:=512) (b:=0) (ver:=0) (el:=some 282) (cs:=s.map u8) (f:=0) (by kernel_rfl) hm (by rw [hput];rfl)
  show (match zce Tryz.prog (([AB.cells 0 (some 282) Z512 0,AB.cells 0 (some 282) (s.map u8) 0]:zaa).set 0 (.cells 0 (some 282) (putAt Z512 0 (s.map u8)) 0)) 282 (.ptr 0 0 0) with | some v=>some [v] | none=>none)=_
  rw [this]
 ·exact zch (n:=63) (fun x hx=>by obtain ⟨c,_,rfl⟩:=List.mem_map.1 hx;exact zaw) _
theorem z4i (a b:Str) (ha:a.length=512) (hb:b.length=512):eqA Tryz.prog 20 282 (.agg (a.map u8)) (.agg (b.map u8))=some (decide (a=b)):=by
 have e0:Tryz.prog.underlying 282=some (.array 512 5):=by kernel_rfl
 obtain ⟨d,e1,e2⟩ : ∃ d,ti Tryz.prog 5=some d ∧ (zbm d.desc=false ∧ d.size=1):=by
  have:(ti Tryz.prog 5).map (fun d=>(zbm d.desc,d.size))=some (false,1):=by kernel_rfl
  obtain ⟨d,h1,h2⟩:=Option.map_eq_some_iff.1 this
  simp only [Prod.mk.injEq] at h2
  exact ⟨d,h1,h2⟩
 unfold eqA
 simp only [e0,e1]
 unfold zqw
 rw [if_pos ⟨e2.1,e2.2,by rw [List.length_map,ha],by rw [List.length_map,hb]⟩]
 simp only
 have e2:∀ (x y:UInt8),eqA Tryz.prog 19 5 (.int .u8 x.toNat) (.int .u8 y.toNat)=some (((x.toNat:Nat):Int)==y.toNat):=fun x y=>by kernel_rfl
 exact zf2 (fun x y=>by rw [e2,zs1]) a b (by rw [ha,hb])
def z5h (s:Str):AV:=.tup [i64 (zah ((s.drop 1).take 1)),i64 (zah (((s.drop 1).drop 1).take 4)),i64 (zah ((((s.drop 1).drop 1).drop 4).take 6)),i64 0]
theorem zz6 (hn:4 ≤ n) (s:Str) (hb:zh0 s=true):C n 205 [.str s] h=some (.ret (z5h s),h):=by
 obtain ⟨m,rfl⟩:=pre1 n
 unfold zh0 at hb
 simp only [Bool.and_eq_true,decide_eq_true_eq] at hb
 obtain ⟨hl,b0,b1,b2⟩:=hb
 refine zad F205 rfl rfl rfl rfl ?_
 have e0:s.getD 0 0=s[0]'(by omega):=by simp [hl]
 have e1:s.getD 1 0=s[1]'(by omega):=by simp [hl]
 rw [e0] at b0
 rw [e1] at b2
 have r0:RDs [AB.cells 0 (some tRdr) [.str s,i64 ((1:Nat):Int)] 0] 0 (s.drop 1):=⟨s,1,rfl,by omega,by omega,rfl⟩
 conv=>whnf
 refine brq (fun a=>absurd a (by omega)) (fun _=>?_)
 conv=>whnf
 refine strI (b:=s[0]'(by omega)) (by omega) (List.getElem?_eq_getElem (by omega)) ?_
 conv=>whnf
 refine brq (fun a=>absurd ((zxh _).2 b0) a) (fun _=>?_)
 conv=>whnf
 refine zob (c:=508) (by omega) ?_
 conv=>whnf
 refine clI (zo9 (n:=m) (by omega) (s.take 508) (by rw [List.length_take];omega)) ?_
 conv=>whnf
 refine br (fun a=>absurd b1 (by simpa using a)) (fun _=>?_)
 conv=>whnf
 refine strI (b:=s[1]'(by omega)) (by omega) (List.getElem?_eq_getElem (by omega)) ?_
 conv=>whnf
 refine zI (z:=((s[1]'(by omega)).toNat:Int)) (by have:=(s[1]'(by omega)).toNat_lt;exact zae (by omega) (by omega)) ?_
 conv=>whnf
 refine clI (zc9 (by omega) _ _ _) ?_
 conv=>whnf
 refine brn (fun a=>by rw [b2] at a;cases a) (fun _=>?_)
 conv=>whnf
 refine zd8 (n:=m) (hp:=[AB.cells 0 (some tRdr) [.str s,i64 ((1:Nat):Int)] 0]) (by omega) r0 1 (by omega) (fun h1 q1 r1 k1=>?_) (fun q=>?_)
 rotate_left
 ·exfalso;rw [List.length_drop] at q;omega
 conv=>whnf
 refine zd8 (n:=m) (hp:=h1) (by omega) r1 4 (by omega) (fun h2 q2 r2 k2=>?_) (fun q=>?_)
 rotate_left
 ·exfalso;simp only [List.length_drop] at q;omega
 conv=>whnf
 refine zd8 (n:=m) (hp:=h2) (by omega) r2 6 (by omega) (fun h3 q3 r3 k3=>?_) (fun q=>?_)
 rotate_left
 ·exfalso;simp only [List.length_drop] at q;omega
 conv=>whnf
 exact ⟨rfl,_,rfl,rfl⟩
end
theorem zgh {k:Nat}{s a t:Str}(h:ze8 k s=some (a,t)):a.length ≤ s.length ∧ t.length ≤ s.length:=by
 unfold ze8 at h
 split at h
 ·cases h;simp only [List.length_take,List.length_drop];omega
 ·cases h
theorem zbz {w v:Nat}{s t:Str}(h:pnum w s=some (v,t)):t.length ≤ s.length ∧ v<256 ^ w:=by
 unfold pnum at h
 split at h
 ·rename_i hl
  cases h
  exact ⟨by rw [List.length_drop];omega,zcm w _ (by rw [List.length_take];omega)⟩
 ·cases h
theorem zub {d:Dg}{s t:Str}(h:psum s=some (d,t)):t.length ≤ s.length:=by
 unfold psum at h
 split at h
 ·cases h;rw [List.length_drop];omega
 ·cases h
theorem zan {α β:Type}{o:Option α}{f:α → Option β}{b:β}(h:o.bind f=some b):∃ a,o=some a ∧ f a=some b:=Option.bind_eq_some_iff.1 h
theorem za0 {α β:Type}{o:Option α}{f:α → β}{b:β}(h:o.map f=some b):∃ a,o=some a ∧ f a=b:=Option.map_eq_some_iff.1 h
theorem znh {key:Str}{long:Nat}{s t:Str}{e:Entry}(h:zbn key long s=some (e,t)):e.key=key ∧ e.val.length ≤ s.length ∧ t.length ≤ s.length:=by
 unfold zbn at h
 split at h
 ·obtain ⟨⟨a,s1⟩,h1,h⟩:=zan h
  obtain ⟨⟨b,s2⟩,h2,h⟩:=zan h
  obtain ⟨⟨d,s3⟩,h3,h⟩:=za0 h
  cases h
  have:=zbz h1;have:=zbz h2;have:=zub h3
  exact ⟨rfl,Nat.zero_le _,by simp only at *;omega⟩
 ·split at h
  ·obtain ⟨⟨a,s1⟩,h1,h⟩:=zan h
   obtain ⟨⟨b,s2⟩,h2,h⟩:=zan h
   obtain ⟨⟨d,s3⟩,h3,h⟩:=za0 h
   cases h
   have:=zbz h1;have:=zbz h2;have:=zub h3
   exact ⟨rfl,Nat.zero_le _,by simp only at *;omega⟩
  ·obtain ⟨⟨a,s1⟩,h1,h⟩:=za0 h
   cases h
   have:=zgh h1
   exact ⟨rfl,this.1,this.2⟩
theorem zy7 {key:Str}{lv:Int}{s t:Str}{e:Entry}(h:zf8 key lv s=some (e,t)):e.key=key ∧ e.val.length ≤ s.length ∧ t.length ≤ s.length:=by
 unfold zf8 at h
 split at h
 ·obtain ⟨⟨a,s1⟩,h1,h⟩:=zan h
  have:=zbz h1
  have:=znh h
  simp only at *
  exact ⟨this.1,by omega,by omega⟩
 ·exact znh h
theorem zqn {pre:Str}{lv:Int}:∀ {k i:Nat}{s t:Str}{es:List Entry},ze9 pre lv k i s=some (es,t) → es.length=k ∧ ∀ e∈es,e.key.length ≤ pre.length+s.length ∧ e.val.length ≤ s.length
 | 0,i,s,t,es,h=>by simp [ze9] at h;obtain ⟨rfl,rfl⟩:=h;simp
 | k+1,i,s,t,es,h=>by
  simp only [ze9] at h
  obtain ⟨⟨e,s1⟩,h1,h⟩:=zan h
  obtain ⟨⟨es',s2⟩,h2,h⟩:=za0 h
  cases h
  have ih:=zqn h2
  unfold pent at h1
  obtain ⟨⟨a,u1⟩,g1,h1⟩:=zan h1
  obtain ⟨⟨b,u2⟩,g2,h1⟩:=zan h1
  have l1:=zbz g1
  have l2:=zgh g2
  have l3:=zy7 h1
  have lk:(preK pre lv i).length ≤ pre.length:=by unfold preK;split<;>simp
  simp only at *
  refine ⟨by simp [ih.1],fun x hx=>?_⟩
  rcases List.mem_cons.1 hx with rfl | hx
  ·rw [l3.1,List.length_append]
   omega
  ·have:=ih.2 x hx
   omega
theorem zy3 {s t:Str}{x:NodeP}(h:zdw s=some (x,t)):x.es.length<65536 ∧ ∀ e∈x.es,e.key.length ≤ 2*s.length ∧ e.val.length ≤ s.length:=by
 unfold zdw at h
 obtain ⟨⟨a1,s1⟩,h1,h⟩:=zan h
 obtain ⟨⟨a2,s2⟩,h2,h⟩:=zan h
 obtain ⟨⟨a3,s3⟩,h3,h⟩:=zan h
 obtain ⟨⟨a4,s4⟩,h4,h⟩:=zan h
 obtain ⟨⟨a5,s5⟩,h5,h⟩:=zan h
 obtain ⟨⟨a6,s6⟩,h6,h⟩:=zan h
 obtain ⟨⟨a7,s7⟩,h7,h⟩:=zan h
 obtain ⟨⟨es,s8⟩,h8,h⟩:=za0 h
 cases h
 have l1:=zbz h1
 have l2:=zbz h2
 have l3:=zbz h3
 have l4:=zbz h4
 have l5:=zbz h5
 have l6:=zgh h6
 have l7:=zgh h7
 have l8:=zqn h8
 simp only at *
 refine ⟨by rw [l8.1];exact l5.2,fun e he=>?_⟩
 have:=l8.2 e he
 omega
theorem zne:∀ {k:Nat}{s t:Str}{ps:List Nat},zc5 k s=some (ps,t) → ps.length=k
 | 0,s,t,es,h=>by simp [zc5] at h;obtain ⟨rfl,rfl⟩:=h;rfl
 | k+1,s,t,es,h=>by
  simp only [zc5] at h
  obtain ⟨⟨e,s1⟩,h1,h⟩:=zan h
  obtain ⟨⟨es',s2⟩,h2,h⟩:=za0 h
  cases h
  simp [zne h2]
theorem zlm:∀ {k:Nat}{s t:Str}{l:List (Nat × List Nat)},zb4 k s=some (l,t) → l.length=k ∧ ∀ x∈l,x.2.length<65536
 | 0,s,t,es,h=>by simp [zb4] at h;obtain ⟨rfl,rfl⟩:=h;simp
 | k+1,s,t,es,h=>by
  simp only [zb4] at h
  obtain ⟨⟨a1,s1⟩,h1,h⟩:=zan h
  obtain ⟨⟨a2,s2⟩,h2,h⟩:=zan h
  obtain ⟨⟨a3,s3⟩,h3,h⟩:=zan h
  obtain ⟨⟨es',s4⟩,h4,h⟩:=za0 h
  cases h
  have l2:=zbz h2
  have l3:=zne h3
  have ih:=zlm h4
  simp only at *
  refine ⟨by simp [ih.1],fun x hx=>?_⟩
  rcases List.mem_cons.1 hx with rfl | hx
  ·simp only;rw [l3];exact l2.2
  ·exact ih.2 x hx
theorem FsAre.ok:∀ {fs:List Freed}{l:List (Nat × List Nat)},FsAre fs l → (∀ x∈l,x.2.length<65536) → ∀ f∈fs,f.Ok ∧ f.pages.length<9223372036854775808
 | _,_,.nil,_,f,hf=>by cases hf
 | _,_,.cons (t:=t) h r,hl,f,hf=>by
  rcases List.mem_cons.1 hf with rfl | hf
  ·have:=hl t (List.mem_cons_self ..)
   refine ⟨h.2.2,?_⟩
   rw [h.2.1,List.length_map];omega
  ·exact r.ok (fun x hx=>hl x (List.mem_cons_of_mem _ hx)) f hf
theorem BlkIs.ok {q:Page}{x:Blk}{s:Str}(hs:s.length=512) (hx:zd9 s=some x) (hq:BlkIs q x):q.Ok:=by
 unfold zd9 at hx
 obtain ⟨⟨a1,s1⟩,h1,h⟩:=zan hx
 obtain ⟨⟨a2,s2⟩,h2,h⟩:=zan h
 obtain ⟨⟨a3,s3⟩,h3,h⟩:=zan h
 obtain ⟨bd,h4,h⟩:=za0 h
 cases h
 have l0:((s.take 508).drop 1).length ≤ 508:=by rw [List.length_drop,List.length_take];omega
 have l1:=zbz h1
 have l2:=zbz h2
 have l3:=zbz h3
 obtain ⟨_,_,_,hb,esz,fsz⟩:=hq
 simp only at *
 unfold zfa at h4
 split at h4
 ·obtain ⟨⟨y,t⟩,g,h⟩:=za0 h4
  cases h
  have:=zy3 g
  obtain ⟨b1,b2,b3,b4,b5,b6,b7⟩:=hb
  refine ⟨esz,fsz,by rw [b4];exact Nat.lt_trans this.1 (by decide),by rw [b7];decide,by rw [b6];decide,fun e he=>?_,fun f hf=>?_⟩
  ·rw [b4] at he
   have:=this.2 e he
   exact ⟨by omega,by omega⟩
  ·rw [b7] at hf;cases hf
 ·split at h4
  ·obtain ⟨⟨y,t⟩,g,h⟩:=za0 h4
   cases h
   obtain ⟨b1,b2,b3,b4,b5,b6,b7⟩:=hb
   unfold zdv at g
   obtain ⟨⟨c1,t1⟩,g1,g⟩:=zan g
   obtain ⟨⟨c2,t2⟩,g2,g⟩:=zan g
   obtain ⟨⟨c3,t3⟩,g3,g⟩:=za0 g
   cases g
   have m1:=zbz g1
   have m2:=zbz g2
   have m3:=zgh g3
   simp only at *
   refine ⟨esz,fsz,by rw [b4];decide,by rw [b7];decide,by rw [b6];omega,fun e he=>?_,fun f hf=>?_⟩
   ·rw [b4] at he;cases he
   ·rw [b7] at hf;cases hf
  ·obtain ⟨⟨y,t⟩,g,h⟩:=za0 h4
   cases h
   obtain ⟨b1,b2,b3,b4,b5,b6,b7⟩:=hb
   unfold zia at g
   obtain ⟨⟨c1,t1⟩,g1,g⟩:=zan g
   obtain ⟨⟨c2,t2⟩,g2,g⟩:=zan g
   obtain ⟨⟨c3,t3⟩,g3,g⟩:=za0 g
   cases g
   have m2:=zbz g2
   have m3:=zlm g3
   have hlen:=b7.length_eq
   simp only at *
   refine ⟨esz,fsz,by rw [b4];decide,by rw [hlen,m3.1];exact Nat.lt_trans m2.2 (by decide),by rw [b6];decide,fun e he=>?_,b7.ok m3.2⟩
   rw [b4] at he;cases he
theorem znt {n:Nat}(e:Entry):zf4 (n+2) e.av:=zch (zrp e)
theorem zno {n:Nat}(f:Freed):zf4 (n+3) f.av:=zch fun x hx=>by
 simp only [Freed.cells,List.mem_cons,List.not_mem_nil,or_false] at hx
 rcases hx with rfl | rfl
 ·exact zaw
 ·exact zd0 fun y hy=>by obtain ⟨k,_,rfl⟩:=List.mem_map.1 hy;exact zaw
theorem zqp {n:Nat}(q:Page):zf4 (n+5) q.av:=zch fun x hx=>by
 simp only [Page.cells,List.mem_cons,List.not_mem_nil,or_false] at hx
 rcases hx with rfl | rfl | rfl | rfl | rfl | rfl | rfl | rfl | rfl | rfl
 ·exact zaw
 ·exact zaw
 ·exact zaw
 ·exact zaw
 ·exact zaw
 ·exact zj0
 ·exact zd0 fun y hy=>by obtain ⟨k,_,rfl⟩:=List.mem_map.1 hy;exact znt k
 ·exact zaw
 ·exact zgu
 ·exact zd0 fun y hy=>by obtain ⟨k,_,rfl⟩:=List.mem_map.1 hy;exact zno k
theorem zjk:∀ (s:Str) (a:Nat),s.foldl (fun n b=>n*256+b.toNat) a=a*256 ^ s.length+zah s
 | [],a=>by simp [zah]
 | c::s,a=>by
  have h1:=zjk s (a*256+c.toNat)
  have h2:=zjk s (0*256+c.toNat)
  show s.foldl (fun n b=>n*256+b.toNat) (a*256+c.toNat)=_
  have h3:zah (c::s)=s.foldl (fun n b=>n*256+b.toNat) (0*256+c.toNat):=rfl
  rw [h1,h3,h2,List.length_cons,Nat.pow_succ]
  rw [Nat.add_mul,Nat.zero_mul,Nat.zero_add,Nat.mul_assoc,Nat.mul_comm 256,Nat.add_assoc]
theorem zva (c:UInt8) (s:Str):zah (c::s)=c.toNat*256 ^ s.length+zah s:=by
 have h:zah (c::s)=s.foldl (fun n b=>n*256+b.toNat) (0*256+c.toNat):=rfl
 rw [h,zjk,Nat.zero_mul,Nat.zero_add]
theorem zpo (k:Nat):∀ w,zah (num k w)=k % 256 ^ w
 | 0=>by simp [num,zah,Nat.mod_one]
 | w+1=>by
  show zah (UInt8.ofNat (k / 256 ^ w)::num k w)=_
  rw [zva,zpo k w,zam,UInt8.toNat_ofNat']
  show k / 256 ^ w % 256*256 ^ w+k % 256 ^ w=k % (256 ^ w*256)
  rw [Nat.mod_mul,Nat.mul_comm,Nat.add_comm]
theorem zba {k w:Nat}(h:k<256 ^ w) (t:Str):pnum w (num k w++t)=some (k,t):=by
 unfold pnum
 rw [if_pos (by rw [List.length_append,zam];omega),List.take_left' (zam k w),List.drop_left' (zam k w),zpo,Nat.mod_eq_of_lt h]
theorem zgi {k:Nat}(s t:Str) (h:s.length=k):ze8 k (s++t)=some (s,t):=by
 unfold ze8
 rw [if_pos (by rw [List.length_append];omega),List.take_left' h,List.drop_left' h]
theorem zou (d:Dg) (t:Str):psum (d.bytes++t)=some (d,t):=by
 unfold psum
 rw [if_pos (by rw [List.length_append,d.bytes_len];omega),List.take_left' d.bytes_len,List.drop_left' d.bytes_len]
 rfl
theorem zhl {e:Entry}(h:za2 e≠0):e.key.length ≤ 48 ∧ ((e.over=0 ∧ e.len=0 ∧ e.child=0 ∧ e.count=0 ∧ e.sum=Dg.zero ∧ e.val.length ≤ 64) ∨ (e.val=[] ∧ e.child=0 ∧ e.count=0 ∧ (2 ≤ e.over ∧ e.over ≤ 4095) ∧ (65 ≤ e.len ∧ e.len ≤ 4000)) ∨
  (e.val=[] ∧ e.over=0 ∧ e.len=0 ∧ (2 ≤ e.child ∧ e.child ≤ 4095) ∧ (1 ≤ e.count ∧ e.count ≤ 2147483647))):=by
 unfold za2 at h
 split at h
 ·exact (h rfl).elim
 ·rename_i hk
  have hk':(e.key.length:Int) ≤ 48:=by
   have:zar e.key.length 1 48=true:=by simpa using hk
   exact (within_iff.1 this).2
  refine ⟨by omega,?_⟩
  split at h
  ·rename_i hs
   simp [zfc] at hs
   left
   obtain ⟨⟨⟨⟨⟨a,b⟩,c⟩,d⟩,f⟩,g⟩:=hs
   exact ⟨a,b,c,d,f,g⟩
  ·split at h
   ·exact (h rfl).elim
   ·rename_i hv
    have hv':e.val=[]:=by simpa using hv
    split at h
    ·rename_i hl
     simp [zkb,zaz,zar] at hl
     right;left
     obtain ⟨⟨⟨a,b⟩,c,d⟩,f,g⟩:=hl
     exact ⟨hv',a,b,⟨c,d⟩,f,g⟩
    ·split at h
     ·rename_i hn
      simp [zka,zaz,zar] at hn
      right;right
      obtain ⟨⟨⟨a,b⟩,c,d⟩,f,g⟩:=hn
      exact ⟨hv',a,b,⟨c,d⟩,f,g⟩
     ·exact (h rfl).elim
theorem zgz {e:Entry}(h:zbf e=true):e.key.length ≤ 48 ∧ e.val=[] ∧ e.over=0 ∧ e.len=0 ∧ (2 ≤ e.child ∧ e.child ≤ 4095) ∧ (1 ≤ e.count ∧ e.count ≤ 2147483647):=by
 simp [zbf,zaz,zar] at h
 obtain ⟨⟨⟨⟨⟨a,b⟩,c⟩,d⟩,f,g⟩,i,j⟩:=h
 exact ⟨a,b,c,d,⟨f,g⟩,i,j⟩
theorem zvy {e:Entry}{lv:Int}(h0:0 ≤ lv) (hf:if lv=0 then za2 e≠0 else zbf e=true) (t:Str):zf8 e.key lv (zf7 e lv++t)=some (e,t):=by
 obtain ⟨key,val,over,len,child,count,sum⟩:=e
 by_cases hl:lv=0
 ·rw [if_pos hl] at hf
  subst hl
  have hc:=(zhl hf).2
  simp only at hc
  unfold zf8 zf7
  rw [if_pos rfl,if_neg (by decide)]
  simp only
  rcases hc with ⟨rfl,rfl,rfl,rfl,rfl,hv⟩ | ⟨rfl,rfl,rfl,ho,hn⟩ | ⟨rfl,rfl,rfl,ho,hn⟩
  ·rw [if_neg (by decide),if_neg (by decide),List.append_assoc,zba (Nat.lt_of_le_of_lt hv (by decide))]
   simp only [Option.bind_some]
   unfold zbn
   rw [if_neg (by omega),if_neg (by omega),zgi _ _ rfl]
   rfl
  ·rw [if_pos (by omega)]
   simp only [List.append_assoc]
   rw [zba (by decide)]
   simp only [Option.bind_some]
   unfold zbn
   have e1:over.toNat<256 ^ 4:=Nat.lt_of_lt_of_le (show over.toNat<4096 by omega) (by decide)
   have e2:len.toNat<256 ^ 2:=Nat.lt_of_lt_of_le (show len.toNat<4096 by omega) (by decide)
   rw [if_pos rfl,zba e1]
   simp only [Option.bind_some]
   rw [zba e2]
   simp only [Option.bind_some]
   rw [zou]
   simp only [Option.map_some]
   rw [show ((over.toNat:Nat):Int)=over by omega,show ((len.toNat:Nat):Int)=len by omega]
  ·rw [if_neg (by decide),if_pos (by omega)]
   simp only [List.append_assoc]
   rw [zba (by decide)]
   simp only [Option.bind_some]
   unfold zbn
   have e1:child.toNat<256 ^ 4:=Nat.lt_of_lt_of_le (show child.toNat<4096 by omega) (by decide)
   have e2:count.toNat<256 ^ 4:=Nat.lt_of_lt_of_le (show count.toNat<2147483648 by omega) (by decide)
   rw [if_neg (by decide),if_pos rfl,zba e1]
   simp only [Option.bind_some]
   rw [zba e2]
   simp only [Option.bind_some]
   rw [zou]
   simp only [Option.map_some]
   rw [show ((child.toNat:Nat):Int)=child by omega,show ((count.toNat:Nat):Int)=count by omega]
 ·rw [if_neg hl] at hf
  obtain ⟨_,rfl,rfl,rfl,ho,hn⟩:=zgz hf
  simp only at ho hn
  unfold zf8 zf7
  rw [if_neg hl,if_pos (by omega)]
  simp only [List.append_assoc]
  unfold zbn
  have e1:child.toNat<256 ^ 4:=Nat.lt_of_lt_of_le (show child.toNat<4096 by omega) (by decide)
  have e2:count.toNat<256 ^ 4:=Nat.lt_of_lt_of_le (show count.toNat<2147483648 by omega) (by decide)
  rw [if_neg (by decide),if_pos rfl,zba e1]
  simp only [Option.bind_some]
  rw [zba e2]
  simp only [Option.bind_some]
  rw [zou]
  simp only [Option.map_some]
  rw [show ((child.toNat:Nat):Int)=child by omega,show ((count.toNat:Nat):Int)=count by omega]
theorem z7k {e:Entry}{lv:Int}(hf:if lv=0 then za2 e≠0 else zbf e=true):e.key.length ≤ 48:=by
 split at hf
 ·exact (zhl hf).1
 ·exact (zgz hf).1
theorem z3f {l:List Entry}{lv:Int}(h0:0 ≤ lv) {i:Nat}(hi:i<l.length):preK (shared l lv) lv i++l[i].key.drop (zdc l lv i)=l[i].key:=by
 unfold preK zdc
 by_cases h:i=0 ∧ 0<lv
 ·rw [if_pos h,if_neg (by omega)];rfl
 ·rw [if_neg h,if_pos (by omega)]
  have hm:l[i]∈zbr l lv:=by
   unfold zbr
   by_cases hl:0<lv
   ·rw [if_pos hl]
    have:(l.drop 1)[i-1]?=some l[i]:=by rw [List.getElem?_drop,show 1+(i-1)=i by omega];exact List.getElem?_eq_getElem hi
    exact List.mem_of_getElem? this
   ·rw [if_neg hl];exact List.getElem_mem hi
  obtain ⟨r,hr⟩:=ziw l lv _ hm
  conv=>rhs;rw [← hr]
  rw [← hr,List.drop_left]
def ebF (l:List Entry) (lv:Int):Nat → Nat → Str
 | 0,_=>[]
 | k+1,i=>entB (zdc l lv i) (l.getD i default) lv++ebF l lv k (i+1)
theorem zns (l:List Entry) (lv:Int):∀ (k i:Nat),i+k ≤ l.length → zea l lv (i+k)=zea l lv i++ebF l lv k i
 | 0,i,_=>by simp [ebF]
 | k+1,i,h=>by
  rw [show i+(k+1)=(i+1)+k by omega,zns l lv k (i+1) (by omega),zei l lv (by omega),ebF,List.append_assoc,zsw (show i<l.length by omega)]
theorem zqo {l:List Entry}{lv:Int}(hv:zc7 l lv=true) (t:Str):∀ (k i:Nat),i+k=l.length → ze9 (shared l lv) lv k i (ebF l lv k i++t)=some (l.drop i,t)
 | 0,i,h=>by
  simp only [ze9,ebF,List.nil_append]
  rw [List.drop_of_length_le (by omega)]
 | k+1,i,h=>by
  have hi:i<l.length:=by omega
  have hf:=(zg7 hv hi).1
  have h0:=(valid_iff.1 hv).1.1
  have hk:=z7k hf
  simp only [ze9,ebF]
  rw [← zsw hi,List.append_assoc]
  have e1:pent (shared l lv) lv i (entB (zdc l lv i) l[i] lv++(ebF l lv k (i+1)++t))=some (l[i],ebF l lv k (i+1)++t):=by
   unfold pent entB
   simp only [List.append_assoc]
   rw [zba (Nat.lt_of_le_of_lt (show l[i].key.length-zdc l lv i ≤ 48 by omega) (by decide))]
   simp only [Option.bind_some]
   rw [zgi _ _ (by rw [List.length_drop])]
   simp only [Option.bind_some]
   rw [z3f h0 hi]
   exact zvy h0 hf _
  rw [e1]
  simp only [Option.bind_some]
  rw [zqo hv t k (i+1) (by omega)]
  simp only [Option.map_some]
  rw [List.drop_eq_getElem_cons hi]
theorem zy4 {l:List Entry}{tree lv:Int}{top:Bool}(ht:0 ≤ tree ∧ tree ≤ 255) (hf:fits l lv=true) (t:Str):zdw (zlt tree lv top l 12++t)=some (⟨tree.toNat,lv.toNat,top,l⟩,t):=by
 obtain ⟨_,hv,hlen⟩:=zep (tree:=tree) (top:=top) (base:=12) hf
 obtain ⟨⟨q1,q2⟩,_⟩:=valid_iff.1 hv
 have hs:=zha hv
 unfold zdw zlt
 simp only [List.append_assoc]
 rw [zba (Nat.lt_of_le_of_lt (show tree.toNat ≤ 255 by omega) (by decide))]
 simp only [Option.bind_some]
 rw [zba (Nat.lt_of_le_of_lt (show lv.toNat ≤ 20 by omega) (by decide))]
 simp only [Option.bind_some]
 rw [zba (by cases top<;>decide)]
 simp only [Option.bind_some]
 rw [zba (Nat.lt_of_le_of_lt hs (by decide))]
 simp only [Option.bind_some]
 rw [zba (Nat.lt_of_le_of_lt hlen (by decide))]
 simp only [Option.bind_some]
 rw [zgi _ _ rfl]
 simp only [Option.bind_some]
 rw [zgi _ _ (by rw [zen])]
 simp only [Option.bind_some]
 have e:=zns l lv l.length 0 (by omega)
 rw [Nat.zero_add] at e
 have e0:zea l lv 0=[]:=rfl
 rw [e,e0,List.nil_append,show ((lv.toNat:Nat):Int)=lv by omega,zqo hv t l.length 0 (by omega)]
 simp only [Option.map_some,List.drop_zero]
 cases top<;>rfl
theorem zvx {next:Int}{data:Str}(hn:0 ≤ next ∧ next ≤ 4095) (hd:data.length ≤ 490) (t:Str):zdv (zi3 next data++t)=some ((next.toNat,data),t):=by
 unfold zdv zi3
 simp only [List.append_assoc]
 rw [zba (Nat.lt_of_le_of_lt (show next.toNat ≤ 4095 by omega) (by decide))]
 simp only [Option.bind_some]
 rw [zba (Nat.lt_of_le_of_lt hd (by decide))]
 simp only [Option.bind_some]
 rw [zgi _ _ rfl]
 rfl
theorem znf (t:Str):∀ {l:List Int},(∀ x∈l,2 ≤ x ∧ x ≤ 4095) → zc5 l.length (zem l++t)=some (l.map Int.toNat,t)
 | [],_=>rfl
 | x::l,h=>by
  have hx:=h x (List.mem_cons_self ..)
  show zc5 (l.length+1) ((num x.toNat 4++zem l)++t)=_
  simp only [zc5,List.append_assoc]
  rw [zba (Nat.lt_of_le_of_lt (show x.toNat ≤ 4095 by omega) (by decide))]
  simp only [Option.bind_some]
  rw [znf t fun y hy=>h y (List.mem_cons_of_mem _ hy)]
  rfl
def zwt (f:Freed):Nat × List Nat:=(f.ver.toNat,f.pages.map Int.toNat)
theorem zln (t:Str):∀ {l:List Freed},(∀ f∈l,(0 ≤ f.ver ∧ f.ver ≤ 1099511627776) ∧ f.pages.length ≤ 4094 ∧ ∀ x∈f.pages,2 ≤ x ∧ x ≤ 4095) → zb4 l.length (zbe l++t)=some (l.map zwt,t)
 | [],_=>rfl
 | f::l,h=>by
  obtain ⟨hv,hp,hx⟩:=h f (List.mem_cons_self ..)
  show zb4 (l.length+1) ((zh1 f++zbe l)++t)=_
  unfold zh1
  simp only [zb4,List.append_assoc]
  rw [zba (Nat.lt_of_le_of_lt (show f.ver.toNat ≤ 1099511627776 by omega) (by decide))]
  simp only [Option.bind_some]
  rw [zba (Nat.lt_of_le_of_lt hp (by decide))]
  simp only [Option.bind_some]
  rw [znf _ hx]
  simp only [Option.bind_some]
  rw [zln t fun y hy=>h y (List.mem_cons_of_mem _ hy)]
  rfl
theorem zy5 {next:Int}{l:List Freed}(hn:0 ≤ next ∧ next ≤ 4095) (hok:zdi l=true) (hlen:l.length ≤ 490) (t:Str):zia (zo0 next l++t)=some ((next.toNat,l.map zwt),t):=by
 unfold zia zo0
 simp only [List.append_assoc]
 rw [zba (Nat.lt_of_le_of_lt (show next.toNat ≤ 4095 by omega) (by decide))]
 simp only [Option.bind_some]
 rw [zba (Nat.lt_of_le_of_lt hlen (by decide))]
 simp only [Option.bind_some]
 rw [zln t fun f hf=>by
  obtain ⟨i,hi,rfl⟩:=List.getElem_of_mem hf
  obtain ⟨h1,_,_,h4⟩:=zhk hok hi
  refine ⟨h1,zy6 h4,fun x hx=>?_⟩
  obtain ⟨j,hj,rfl⟩:=List.getElem_of_mem hx
  exact (zkq h4 hj).1]
 rfl
def bdOf (p:Page):Bdy:=if p.kind=3 then .pc (p.next.toNat,p.data) else if p.kind=4 then .ls (p.next.toNat,p.freed.map zwt) else .nd ⟨p.tree.toNat,p.level.toNat,p.top,p.entries⟩
theorem zjy (l:List Freed):6+8*(l.length:Int) ≤ zbo l:=by
 induction l with
 | nil=>simp [zbo]
 | cons f r ih=>simp only [zbo,List.map_cons,List.sum_cons,List.length_cons] at ih ⊢;omega
theorem zqm {p:Page}(hc:p.check=true):zd9 p.enc=some ⟨p.kind.toNat,p.no.toNat,p.ver.toNat,bdOf p⟩:=by
 obtain ⟨hno,hver,hk⟩:=check_iff.1 hc
 have e0:(p.enc.take 508).drop 1=num p.kind.toNat 1++(num p.no.toNat 4++(num p.ver.toNat 6++(p.bodyB++za5 (508-p.used.length)))):=by
  have:p.enc.take 508=p.full:=by
   unfold Page.enc
   rw [List.take_append_of_le_length (by rw [zfz hc];decide),List.take_of_length_le (by rw [zfz hc];decide)]
  rw [this]
  unfold Page.full Page.used Page.headB
  simp only [List.cons_append,List.drop_succ_cons,List.drop_zero,List.append_assoc]
 have hkind:p.kind.toNat ≤ 4:=by omega
 unfold zd9
 rw [e0,zba (Nat.lt_of_le_of_lt hkind (by decide))]
 simp only [Option.bind_some]
 rw [zba (Nat.lt_of_le_of_lt (show p.no.toNat ≤ 4095 by omega) (by decide))]
 simp only [Option.bind_some]
 rw [zba (Nat.lt_of_le_of_lt (show p.ver.toNat ≤ 1099511627776 by omega) (by decide))]
 simp only [Option.bind_some]
 have e1:zfa p.kind.toNat (p.bodyB++za5 (508-p.used.length))=some (bdOf p):=by
  unfold zfa Page.bodyB bdOf
  rcases hk with ⟨h1,ht,_,hf,_⟩ | ⟨h1,_,hl,hd,_⟩ | ⟨h1,_,hl,_,hok,hs⟩
  ·rw [if_pos (by omega),if_neg (by omega),if_neg (by omega),zy4 ht hf,if_neg (by omega),if_neg (by omega)]
   rfl
  ·rw [if_neg (by omega),if_pos (by omega),if_pos h1,zvx (zdx hl) (by omega),if_pos h1]
   rfl
  ·have:=zjy p.freed
   rw [if_neg (by omega),if_neg (by omega),if_neg (by omega),if_pos h1,zy5 (zdx hl) hok (by omega),if_neg (by omega),if_pos h1]
   rfl
 rw [e1]
 rfl
def DecS (s:Str) (r:CRes):Prop:=match zd9 s with
 | none=>r=.ret (.tup [.agg zax,i64 8])
 | some x=>∃ q:Page,BlkIs q x ∧ q.Ok ∧ r=if q.check=true ∧ q.enc=s then .ret (.tup [q.av,i64 0]) else .ret (.tup [.agg zax,i64 8])
section
variable {n:Nat}{s:Str}
theorem zkr {L:LT}{h:zaa}{cs:List AV}{k:Int}(h2:lk L 2=some (.ptr 0 0 0)) (h3:lk L 3=some (i64 k)) (hP:h[0]?=some (.cells 0 (some 79) cs 0)) (hc:cs.length=10):zcg Tryz.prog L h [.cell 2 79,.tmp 3]=some [.agg cs,i64 k]:=by
 simp only [zcg,h2,h3,zjs hc hP]
theorem zn1 {h:zaa}{k:Int}:frz h 64 (.tup [.agg zax,i64 k])=some (.tup [.agg zax,i64 k]):=rfl
theorem z5a {h:zaa}{q:Page}{k:Int}:frz h 64 (.tup [q.av,i64 k])=some (.tup [q.av,i64 k]):=z0e (n:=63) (fun x hx=>by
 simp only [List.mem_cons,List.not_mem_nil,or_false] at hx
 rcases hx with rfl | rfl
 ·exact zqp q
 ·exact zaw) h
theorem zrj (hn:10 ≤ n) (hs:zh0 s=true):∃ r,(∀ h,C n 162 [.str s] h=some (r,h)) ∧ DecS s r:=by
 obtain ⟨m,rfl⟩:=pre1 n
 have hl:s.length=512:=by
  unfold zh0 at hs
  simp only [Bool.and_eq_true,decide_eq_true_eq] at hs
  exact hs.1
 obtain ⟨m',rfl⟩ : ∃ k,m=k+1:=⟨m-1,by omega⟩
 obtain ⟨r,e1,hr⟩:=z6o (m:=m') (s:=s) (by omega) hl
 unfold z1v at hr
 unfold DecS
 have cH:∀ h,C (m'+1) 205 [.str s] h=some (.ret (z5h s),h):=fun h=>zz6 (by omega) s hs
 cases hp:zd9 s with
 | none =>
  rw [hp] at hr
  simp only at hr
  subst hr
  refine ⟨_,fun h=>?_,rfl⟩
  refine zad F162 rfl rfl rfl rfl ?_
  conv=>whnf
  refine clI (cH _) ?_
  conv=>whnf
  refine clI (e1 _) ?_
  conv=>whnf
  refine stJ (xs:=zax) (by rfl) ?_
  conv=>whnf
  refine stJ (xs:=zax) (by rfl) ?_
  exact ⟨rfl,_,zkr rfl rfl rfl rfl,zn1⟩
 | some x =>
  rw [hp] at hr
  simp only at hr
  obtain ⟨q,rfl,hq⟩:=hr
  have ok:=hq.ok hl hp
  have cC:∀ h,C (m'+1) 143 [q.av] h=some (.ret (i64 (if q.check then 0 else 2)),h):=fun h=>zpd (by omega) q ok
  cases hc:q.check with
  | false =>
   rw [hc] at cC
   refine ⟨.ret (.tup [.agg zax,i64 8]),fun h=>?_,q,hq,ok,by rw [if_neg (by simp [hc])]⟩
   refine zad F162 rfl rfl rfl rfl ?_
   conv=>whnf
   refine clI (cH _) ?_
   conv=>whnf
   refine clI (e1 _) ?_
   conv=>whnf
   refine stJ (xs:=q.cells) (by rfl) ?_
   conv=>whnf
   refine ldI (by rfl) ?_
   conv=>whnf
   refine clI (cC _) ?_
   conv=>whnf
   refine stJ (xs:=zax) (by rfl) ?_
   exact ⟨rfl,_,zkr rfl rfl rfl rfl,zn1⟩
  | true =>
   rw [hc] at cC
   have cE:∀ h,C (m'+1) 119 [q.av] h=some (.ret (.tup [.str q.enc,i64 0]),h):=fun h=>by
    rw [z0r (by omega) q ok,hc];rfl
   have cB1:∀ h,C (m'+1) 207 [.str q.enc] h=some (.ret (.agg (q.enc.map u8)),h):=fun h=>znx (by omega) _ (zma hc)
   have cB2:∀ h,C (m'+1) 207 [.str s] h=some (.ret (.agg (s.map u8)),h):=fun h=>znx (by omega) _ hl
   have walk:∀ (r:CRes),r=(if q.enc=s then .ret (.tup [q.av,i64 0]) else .ret (.tup [.agg zax,i64 8])) → ∀ h,C (m'+1+1) 162 [.str s] h=some (r,h):=fun r er h=>by
    obtain ⟨v,ev⟩ : ∃ v,r=.ret v:=by
     rw [er];split<;>exact ⟨_,rfl⟩
    rw [ev]
    rw [ev] at er
    refine zad F162 rfl rfl rfl rfl ?_
    conv=>whnf
    refine clI (cH _) ?_
    conv=>whnf
    refine clI (e1 _) ?_
    conv=>whnf
    refine stJ (xs:=q.cells) (by rfl) ?_
    conv=>whnf
    refine ldI (by rfl) ?_
    conv=>whnf
    refine clI (cC _) ?_
    conv=>whnf
    refine ldI (by rfl) ?_
    conv=>whnf
    refine clI (cE _) ?_
    conv=>whnf
    refine clI (cB1 _) ?_
    conv=>whnf
    refine clI (cB2 _) ?_
    conv=>whnf
    refine eqI (z4i _ _ (zma hc) hl) ?_
    conv=>whnf
    refine brn (fun a=>?_) (fun a=>?_)
    ·have a':¬ q.enc=s:=of_decide_eq_false a
     rw [if_neg a'] at er
     cases er
     conv=>whnf
     refine stJ (xs:=zax) (by rfl) ?_
     exact ⟨rfl,_,zkr rfl rfl rfl rfl,zn1⟩
    ·have a':q.enc=s:=of_decide_eq_true a
     rw [if_pos a'] at er
     cases er
     conv=>whnf
     refine ldI (by rfl) ?_
     conv=>whnf
     refine stJ (xs:=q.cells) (by rfl) ?_
     exact ⟨rfl,_,zkr rfl rfl rfl rfl,z5a⟩
   refine ⟨_,walk _ rfl,q,hq,ok,?_⟩
   by_cases a:q.enc=s
   ·rw [if_pos a,if_pos ⟨hc,a⟩]
   ·rw [if_neg a,if_neg (fun h=>a h.2)]
end
def Freed.core (f:Freed):Int × List Int:=(f.ver,f.pages)
structure Same (p q:Page):Prop where
 kind:q.kind=p.kind
 no:q.no=p.no
 ver:q.ver=p.ver
 tree:q.tree=p.tree
 level:q.level=p.level
 top:q.top=p.top
 entries:q.entries=p.entries
 next:q.next=p.next
 data:q.data=p.data
 freed:q.freed.map Freed.core=p.freed.map Freed.core
theorem zjg {a b:List Freed}(h:a.map Freed.core=b.map Freed.core):a.length=b.length:=by
 have:=congrArg List.length h
 simpa using this
theorem zpb {a b:List Freed}(h:a.map Freed.core=b.map Freed.core) (k:Nat):(a.getD k default).ver=(b.getD k default).ver ∧ (a.getD k default).pages=(b.getD k default).pages:=by
 have hl:=zjg h
 by_cases hk:k<a.length
 ·have hk':k<b.length:=by omega
  have h1:(a.map Freed.core)[k]?=(b.map Freed.core)[k]?:=by rw [h]
  rw [List.getElem?_map,List.getElem?_map,List.getElem?_eq_getElem hk,List.getElem?_eq_getElem hk'] at h1
  have h2:a[k].core=b[k].core:=Option.some.inj h1
  have e1:a.getD k default=a[k]:=by simp [hk]
  have e2:b.getD k default=b[k]:=by simp [hk']
  rw [e1,e2]
  exact ⟨congrArg Prod.fst h2,congrArg Prod.snd h2⟩
 ·have e1:a.getD k default=default:=by simp [List.getElem?_eq_none (show a.length ≤ k by omega)]
  have e2:b.getD k default=default:=by simp [List.getElem?_eq_none (show b.length ≤ k by omega)]
  rw [e1,e2]
  exact ⟨rfl,rfl⟩
theorem zq2 {a b:List Freed}(h:a.map Freed.core=b.map Freed.core):zdi a=zdi b:=by
 unfold zdi
 rw [zjg h]
 congr 1
 funext k
 unfold frAt
 rw [(zpb h k).1,(zpb h k).2,(zpb h (k-1)).1]
theorem zst {a b:List Freed}(h:a.map Freed.core=b.map Freed.core):zbo a=zbo b:=by
 have e:∀ l:List Freed,(l.map fun f=>8+4*(f.pages.length:Int))=(l.map Freed.core).map fun c=>8+4*(c.2.length:Int):=fun l=>by rw [List.map_map];rfl
 unfold zbo
 rw [e a,e b,h]
theorem zq1 {a b:List Freed}(h:a.map Freed.core=b.map Freed.core):zbe a=zbe b:=by
 have e:∀ l:List Freed,zbe l=(l.map Freed.core).flatMap fun c=>num c.1.toNat 6++(num c.2.length 2++zem c.2):=fun l=>by
  induction l with
  | nil=>rfl
  | cons f r ih =>
   simp only [zbe,List.flatMap_cons,List.map_cons] at ih ⊢
   rw [ih];rfl
 rw [e a,e b,h]
theorem Same.check {p q:Page}(h:Same p q):q.check=p.check:=by
 unfold Page.check Page.plain
 rw [h.kind,h.no,h.ver,h.tree,h.level,h.top,h.entries,h.next,h.data,zq2 h.freed,zst h.freed,zjg h.freed]
theorem Same.enc {p q:Page}(h:Same p q):q.enc=p.enc:=by
 have e:q.full=p.full:=by
  unfold Page.full Page.used Page.headB Page.bodyB zo0
  rw [h.kind,h.no,h.ver,h.tree,h.level,h.top,h.entries,h.next,h.data,zq1 h.freed,zjg h.freed]
 unfold Page.enc
 rw [e]
theorem zqy:∀ {l:List Int},(∀ x∈l,0 ≤ x) → (l.map Int.toNat).map (fun p:Nat=>(p:Int))=l
 | [],_=>rfl
 | x::l,h=>by
  have hx:=h x (List.mem_cons_self ..)
  simp only [List.map_cons]
  rw [zqy fun y hy=>h y (List.mem_cons_of_mem _ hy),show ((x.toNat:Nat):Int)=x by omega]
theorem z0a:∀ {fs l:List Freed},FsAre fs (l.map zwt) → (∀ f∈l,0 ≤ f.ver ∧ ∀ x∈f.pages,0 ≤ x) → fs.map Freed.core=l.map Freed.core
 | fs,[],h,_=>by cases h;rfl
 | fs,f::l,h,hl=>by
  cases h with
  | cons h1 h2 =>
   rename_i g gs
   have hf:=hl f (List.mem_cons_self ..)
   simp only [List.map_cons]
   rw [z0a h2 fun y hy=>hl y (List.mem_cons_of_mem _ hy)]
   congr 1
   unfold Freed.core
   rw [h1.1,h1.2.1]
   have e1:((zwt f).1:Int)=f.ver:=by show ((f.ver.toNat:Nat):Int)=_;omega
   have e2:(zwt f).2.map (fun p:Nat=>(p:Int))=f.pages:=zqy hf.2
   rw [e1,e2]
theorem zxz {p q:Page}(hc:p.check=true) (hq:BlkIs q ⟨p.kind.toNat,p.no.toNat,p.ver.toNat,bdOf p⟩):Same p q:=by
 obtain ⟨hno,hver,hk⟩:=check_iff.1 hc
 obtain ⟨q1,q2,q3,q4,_,_⟩:=hq
 simp only at q1 q2 q3 q4
 unfold bdOf at q4
 rcases hk with ⟨h1,ht,_,hf,hn,hd,hfr⟩ | ⟨h1,hp,hl,hd,hfr⟩ | ⟨h1,hp,hl,hd,hok,hs⟩
 ·rw [if_neg (by omega),if_neg (by omega)] at q4
  obtain ⟨b1,b2,b3,b4,b5,b6,b7⟩:=q4
  have hlv:=(valid_iff.1 (zep (tree:=0) (top:=true) (base:=12) hf).2.1).1.1
  exact ⟨by omega,by omega,by omega,by simp only at b1;omega,by simp only at b2;omega,b3,b4,by omega,by rw [b6,hd],by rw [b7,hfr]⟩
 ·rw [if_pos h1] at q4
  obtain ⟨b1,b2,b3,b4,b5,b6,b7⟩:=q4
  have hnx:=(zdx hl).1
  simp [Page.plain] at hp
  obtain ⟨p1,p2,p3,p4⟩:=hp
  exact ⟨by omega,by omega,by omega,by omega,by omega,by rw [b3,p3],by rw [b4,p4],by simp only at b5;omega,b6,by rw [b7,hfr]⟩
 ·rw [if_neg (by omega),if_pos h1] at q4
  obtain ⟨b1,b2,b3,b4,b5,b6,b7⟩:=q4
  have hnx:=(zdx hl).1
  simp [Page.plain] at hp
  obtain ⟨p1,p2,p3,p4⟩:=hp
  refine ⟨by omega,by omega,by omega,by omega,by omega,by rw [b3,p3],by rw [b4,p4],by simp only at b5;omega,by rw [b6,hd],z0a b7 fun f hf=>?_⟩
  obtain ⟨i,hi,rfl⟩:=List.getElem_of_mem hf
  obtain ⟨g1,_,_,g4⟩:=zhk hok hi
  refine ⟨g1.1,fun x hx=>?_⟩
  obtain ⟨j,hj,rfl⟩:=List.getElem_of_mem hx
  have:=(zkq g4 hj).1
  omega
theorem zwf {p:Page}(hc:p.check=true):zh0 p.enc=true:=by
 obtain ⟨hno,hver,hk⟩:=check_iff.1 hc
 have h1:p.enc.take 508=p.full:=by
  unfold Page.enc
  rw [List.take_append_of_le_length (by rw [zfz hc];decide),List.take_of_length_le (by rw [zfz hc];decide)]
 have h2:p.enc.getD 0 0=85:=rfl
 have h3:p.enc.getD 1 0=UInt8.ofNat (p.kind.toNat / 256 ^ 0):=rfl
 have h4:(UInt8.ofNat (p.kind.toNat / 256 ^ 0)).toNat=p.kind.toNat:=by
  rw [UInt8.toNat_ofNat']
  simp
  omega
 unfold zh0
 rw [h1,h2,h3,h4,zma hc]
 have h5:p.full++crcB p.full=p.enc:=rfl
 rw [h5]
 simp [zar]
 omega
theorem zwp {n:Nat}(hn:10 ≤ n) {p:Page}(hc:p.check=true):∃ q:Page,Same p q ∧ q.Ok ∧ ∀ h,C n 162 [.str p.enc] h=some (.ret (.tup [q.av,i64 0]),h):=by
 obtain ⟨r,e1,e2⟩:=zrj hn (zwf hc)
 unfold DecS at e2
 rw [zqm hc] at e2
 obtain ⟨q,hq,ok,e3⟩:=e2
 have hs:=zxz hc hq
 rw [if_pos ⟨by rw [hs.check,hc],hs.enc⟩] at e3
 subst e3
 exact ⟨q,hs,ok,e1⟩
theorem zyy {a:Nat}{t:Str}{c:UInt8}:putAt ((List.replicate (a+1) (0:UInt8)++t).map u8) a [u8 c]=(List.replicate a (0:UInt8)++c::t).map u8:=by
 unfold putAt
 simp only [List.map_append,List.map_replicate,List.map_cons,List.length_singleton]
 rw [List.take_append_of_le_length (by simp),List.take_replicate,List.drop_append_of_le_length (by simp),List.drop_replicate,Nat.min_eq_left (by omega),Nat.sub_self]
 simp
section
variable {n:Nat}{h:zaa}
theorem zgs (hn:1 ≤ n) (k:Int):C n 147 [i64 k] h=some (.ret (.bool (zaz k)),h):=by
 obtain ⟨m,rfl⟩:=pre1 n
 refine zad F147 rfl rfl rfl rfl ?_
 repeat' (conv=>whnf);first
  | refine retP rfl (zai ?_)
  | refine brd (fun _=>?_) (fun _=>?_)
  | refine bre (fun _=>?_) (fun _=>?_)
  | refine brq (fun _=>?_) (fun _=>?_)
  | refine brn (fun _=>?_) (fun _=>?_)
  | refine br (fun _=>?_) (fun _=>?_)
  | refine ldI (by rfl) ?_
  | refine ldI (zag _ _ _) ?_
  | refine ldI (zaf _ _) ?_
  | refine stJ (by rfl) ?_
  | refine stJ (zaf _ _) ?_
  | refine cutS (by decide) rfl ?_
 all_goals simp_all [zaz,zar]
 all_goals omega
theorem zux (hn:1 ≤ n) (k:Int):C n 247 [i64 k] h=some (.ret (.bool (zar k 1 2147483647)),h):=by
 obtain ⟨m,rfl⟩:=pre1 n
 refine zad F247 rfl rfl rfl rfl ?_
 repeat' (conv=>whnf);first
  | refine retP rfl (zai ?_)
  | refine brd (fun _=>?_) (fun _=>?_)
  | refine bre (fun _=>?_) (fun _=>?_)
  | refine brq (fun _=>?_) (fun _=>?_)
  | refine brn (fun _=>?_) (fun _=>?_)
  | refine br (fun _=>?_) (fun _=>?_)
  | refine ldI (by rfl) ?_
  | refine ldI (zag _ _ _) ?_
  | refine ldI (zaf _ _) ?_
  | refine stJ (by rfl) ?_
  | refine stJ (zaf _ _) ?_
  | refine cutS (by decide) rfl ?_
 all_goals simp_all [zar]
 all_goals omega
end
abbrev RT:Type:=Str × Bool
def zbh (k:Nat) (t:RT):Str × RT:=if t.1.length<k ∨ t.2=true then ([],t.1,true) else (t.1.take k,t.1.drop k,false)
def rnum (w:Nat) (t:RT):Nat × RT:=(zah (zbh w t).1,(zbh w t).2)
def rsum (t:RT):Dg × RT:=(dgOf (zbh 16 t).1,(zbh 16 t).2)
def zge (key:Str) (t:RT):Entry × RT:=(⟨key,[],0,0,(rnum 4 t).1,(rnum 4 (rnum 4 t).2).1,(rsum (rnum 4 (rnum 4 t).2).2).1⟩,(rsum (rnum 4 (rnum 4 t).2).2).2)
def zse (key:Str) (t:RT):Entry × RT:=(⟨key,[],(rnum 4 t).1,(rnum 2 (rnum 4 t).2).1,0,0,(rsum (rnum 2 (rnum 4 t).2).2).1⟩,(rsum (rnum 2 (rnum 4 t).2).2).2)
def zla (key:Str) (m:Nat) (t:RT):Entry × RT:=(⟨key,(zbh m t).1,0,0,0,0,Dg.zero⟩,(zbh m t).2)
def zh9 (key:Str) (m:Nat) (t:RT):Entry × RT:=if m=65534 then zge key t else if m=65535 then zse key t else zla key m t
def rkey (pre:Str) (lv:Int) (first:Bool) (k:Str):Str:=if lv=0 ∨ first=false then pre++k else k
def rent (pre:Str) (lv:Int) (first:Bool) (t:RT):Entry × RT :=
 if 0<lv then zh9 (rkey pre lv first (zbh (rnum 1 t).1 (rnum 1 t).2).1) 65534 (zbh (rnum 1 t).1 (rnum 1 t).2).2
 else zh9 (rkey pre lv first (zbh (rnum 1 t).1 (rnum 1 t).2).1) (rnum 2 (zbh (rnum 1 t).1 (rnum 1 t).2).2).1 (rnum 2 (zbh (rnum 1 t).1 (rnum 1 t).2).2).2
def ze7 (pre:Str) (lv:Int):Nat → Nat → RT → List Entry × RT
 | 0,_,t=>([],t)
 | k+1,i,t=>if t.2=true then ([],t) else ((rent pre lv (decide (i=0)) t).1::(ze7 pre lv k (i+1) (rent pre lv (decide (i=0)) t).2).1,(ze7 pre lv k (i+1) (rent pre lv (decide (i=0)) t).2).2)
def zb6:Nat → RT → List Nat × RT
 | 0,t=>([],t)
 | k+1,t=>if t.2=true then ([],t) else ((rnum 4 t).1::(zb6 k (rnum 4 t).2).1,(zb6 k (rnum 4 t).2).2)
def zhx (t:RT):(Nat × List Nat) × RT:=(((rnum 6 t).1,(zb6 (rnum 2 (rnum 6 t).2).1 (rnum 2 (rnum 6 t).2).2).1),(zb6 (rnum 2 (rnum 6 t).2).1 (rnum 2 (rnum 6 t).2).2).2)
def zck:Nat → RT → List (Nat × List Nat) × RT
 | 0,t=>([],t)
 | k+1,t=>if t.2=true then ([],t) else ((zhx t).1::(zck k (zhx t).2).1,(zck k (zhx t).2).2)
theorem zcc (k:Nat) (t:RT):(zbh k t).1.length ≤ t.1.length ∧ (zbh k t).2.1.length ≤ t.1.length ∧ (zbh k t).1.length ≤ k:=by
 unfold zbh
 split
 ·simp
 ·simp;omega
theorem zaq (w:Nat) (t:RT):(rnum w t).2.1.length ≤ t.1.length:=(zcc w t).2.1
theorem zd2 (w:Nat) (t:RT):(rnum w t).1<256 ^ w:=by
 have h:=zcm _ (zbh w t).1 rfl
 have h2:=(zcc w t).2.2
 exact Nat.lt_of_lt_of_le h (Nat.pow_le_pow_right (by decide) h2)
theorem zt1 (t:RT):(rsum t).2.1.length ≤ t.1.length:=(zcc 16 t).2.1
theorem zqk (key:Str) (m:Nat) (t:RT):(zh9 key m t).1.key=key ∧ (zh9 key m t).1.val.length ≤ t.1.length ∧ (zh9 key m t).2.1.length ≤ t.1.length:=by
 unfold zh9
 split
 ·refine ⟨rfl,Nat.zero_le _,?_⟩
  exact Nat.le_trans (zt1 _) (Nat.le_trans (zaq 4 _) (zaq 4 _))
 ·split
  ·refine ⟨rfl,Nat.zero_le _,?_⟩
   exact Nat.le_trans (zt1 _) (Nat.le_trans (zaq 2 _) (zaq 4 _))
  ·exact ⟨rfl,(zcc m t).1,(zcc m t).2.1⟩
theorem z24 (pre:Str) (lv:Int) (first:Bool) (k:Str):(rkey pre lv first k).length ≤ pre.length+k.length:=by
 unfold rkey
 split<;>simp
theorem zt7 (pre:Str) (lv:Int) (first:Bool) (t:RT):(rent pre lv first t).1.key.length ≤ pre.length+t.1.length ∧ (rent pre lv first t).1.val.length ≤ t.1.length ∧ (rent pre lv first t).2.1.length ≤ t.1.length:=by
 have h1:=zaq 1 t
 have h2:=zcc (rnum 1 t).1 (rnum 1 t).2
 have h3:=z24 pre lv first (zbh (rnum 1 t).1 (rnum 1 t).2).1
 have h4:=zaq 2 (zbh (rnum 1 t).1 (rnum 1 t).2).2
 unfold rent
 split
 ·have:=zqk (rkey pre lv first (zbh (rnum 1 t).1 (rnum 1 t).2).1) 65534 (zbh (rnum 1 t).1 (rnum 1 t).2).2
  exact ⟨by rw [this.1];omega,by omega,by omega⟩
 ·have:=zqk (rkey pre lv first (zbh (rnum 1 t).1 (rnum 1 t).2).1) (rnum 2 (zbh (rnum 1 t).1 (rnum 1 t).2).2).1 (rnum 2 (zbh (rnum 1 t).1 (rnum 1 t).2).2).2
  exact ⟨by rw [this.1];omega,by omega,by omega⟩
theorem zqe {pre:Str}{lv:Int}{M:Nat}:∀ (k i:Nat) (t:RT),t.1.length ≤ M → (ze7 pre lv k i t).1.length ≤ k ∧ ∀ e∈(ze7 pre lv k i t).1,e.key.length ≤ pre.length+M ∧ e.val.length ≤ M
 | 0,i,t,h=>⟨Nat.le_refl _,fun e he=>by cases he⟩
 | k+1,i,t,h=>by
  unfold ze7
  split
  ·exact ⟨Nat.zero_le _,fun e he=>by cases he⟩
  ·have h1:=zt7 pre lv (decide (i=0)) t
   have h2:=zqe (pre:=pre) (lv:=lv) k (i+1) (rent pre lv (decide (i=0)) t).2 (Nat.le_trans h1.2.2 h)
   refine ⟨by simp only [List.length_cons];omega,fun e he=>?_⟩
   rcases List.mem_cons.1 he with rfl | he
   ·exact ⟨by omega,by omega⟩
   ·exact h2.2 e he
theorem zna:∀ (k:Nat) (t:RT),(zb6 k t).1.length ≤ k
 | 0,t=>Nat.le_refl _
 | k+1,t=>by
  unfold zb6
  split
  ·exact Nat.zero_le _
  ·have:=zna k (rnum 4 t).2
   simp only [List.length_cons];omega
theorem zlf:∀ (k:Nat) (t:RT),(zck k t).1.length ≤ k ∧ ∀ x∈(zck k t).1,x.2.length<65536
 | 0,t=>⟨Nat.le_refl _,fun x hx=>by cases hx⟩
 | k+1,t=>by
  unfold zck
  split
  ·exact ⟨Nat.zero_le _,fun x hx=>by cases hx⟩
  ·have h1:=zlf k (zhx t).2
   refine ⟨by simp only [List.length_cons];omega,fun x hx=>?_⟩
   rcases List.mem_cons.1 hx with rfl | hx
   ·have h2:=zna (rnum 2 (rnum 6 t).2).1 (rnum 2 (rnum 6 t).2).2
    have h3:=zd2 2 (rnum 6 t).2
    show (zb6 (rnum 2 (rnum 6 t).2).1 (rnum 2 (rnum 6 t).2).2).1.length<65536
    omega
   ·exact h1.2 x hx
theorem ziz {k:Nat}{s a t:Str}(h:ze8 k s=some (a,t)):zbh k (s,false)=(a,t,false):=by
 unfold ze8 at h
 split at h
 ·rename_i hk
  cases h
  unfold zbh
  rw [if_neg (by simp;omega)]
 ·cases h
theorem zb3 {w k:Nat}{s t:Str}(h:pnum w s=some (k,t)):rnum w (s,false)=(k,t,false):=by
 unfold pnum at h
 split at h
 ·rename_i hk
  cases h
  unfold rnum zbh
  rw [if_neg (by simp;omega)]
 ·cases h
theorem zx4 {d:Dg}{s t:Str}(h:psum s=some (d,t)):rsum (s,false)=(d,t,false):=by
 unfold psum at h
 split at h
 ·rename_i hk
  cases h
  unfold rsum zbh
  rw [if_neg (by simp;omega)]
 ·cases h
theorem zua {key:Str}{m:Nat}{s t:Str}{e:Entry}(h:zbn key m s=some (e,t)):zh9 key m (s,false)=(e,t,false):=by
 unfold zbn at h
 unfold zh9
 split at h
 ·rename_i hm
  subst hm
  rw [if_neg (by decide),if_pos rfl]
  obtain ⟨⟨a,s1⟩,h1,h⟩:=zan h
  obtain ⟨⟨b,s2⟩,h2,h⟩:=zan h
  obtain ⟨⟨d,s3⟩,h3,h⟩:=za0 h
  cases h
  unfold zse
  rw [zb3 h1,zb3 h2,zx4 h3]
 ·split at h
  ·rename_i hm
   subst hm
   rw [if_pos rfl]
   obtain ⟨⟨a,s1⟩,h1,h⟩:=zan h
   obtain ⟨⟨b,s2⟩,h2,h⟩:=zan h
   obtain ⟨⟨d,s3⟩,h3,h⟩:=za0 h
   cases h
   unfold zge
   rw [zb3 h1,zb3 h2,zx4 h3]
  ·rename_i h1 h2
   rw [if_neg h2,if_neg h1]
   obtain ⟨⟨a,s1⟩,h1,h⟩:=za0 h
   cases h
   unfold zla
   rw [ziz h1]
theorem z6h (pre:Str) (lv:Int) (i:Nat) (k:Str):rkey pre lv (decide (i=0)) k=preK pre lv i++k:=by
 unfold rkey preK
 by_cases h:0<i ∨ lv=0
 ·rw [if_pos h,if_pos]
  rcases h with h | h
  ·right;simp;omega
  ·left;exact h
 ·rw [if_neg h,if_neg]
  ·rfl
  ·simp;omega
theorem z6k {pre:Str}{lv:Int}(h0:0 ≤ lv) {i:Nat}{s t:Str}{e:Entry}(h:pent pre lv i s=some (e,t)):rent pre lv (decide (i=0)) (s,false)=(e,t,false):=by
 unfold pent at h
 obtain ⟨⟨a,s1⟩,h1,h⟩:=zan h
 obtain ⟨⟨b,s2⟩,h2,h⟩:=zan h
 simp only at h2 h
 unfold rent
 rw [zb3 h1]
 simp only
 rw [ziz h2]
 simp only
 rw [z6h]
 unfold zf8 at h
 by_cases hl:lv=0
 ·rw [if_pos hl] at h
  rw [if_neg (by omega)]
  obtain ⟨⟨c,s3⟩,h3,h⟩:=zan h
  rw [zb3 h3]
  exact zua h
 ·rw [if_neg hl] at h
  rw [if_pos (by omega)]
  exact zua h
theorem zt6 {pre:Str}{lv:Int}(h0:0 ≤ lv):∀ {k i:Nat}{s t:Str}{es:List Entry},ze9 pre lv k i s=some (es,t) → ze7 pre lv k i (s,false)=(es,t,false)
 | 0,i,s,t,es,h=>by
  simp only [ze9] at h
  cases h
  rfl
 | k+1,i,s,t,es,h=>by
  simp only [ze9] at h
  obtain ⟨⟨a,s1⟩,h1,h⟩:=zan h
  obtain ⟨⟨b,s2⟩,h2,h⟩:=za0 h
  cases h
  unfold ze7
  rw [if_neg (by simp),z6k h0 h1]
  simp only
  rw [zt6 h0 h2]
theorem zp7:∀ {k:Nat}{s t:Str}{ps:List Nat},zc5 k s=some (ps,t) → zb6 k (s,false)=(ps,t,false)
 | 0,s,t,ps,h=>by
  simp only [zc5] at h
  cases h
  rfl
 | k+1,s,t,ps,h=>by
  simp only [zc5] at h
  obtain ⟨⟨a,s1⟩,h1,h⟩:=zan h
  obtain ⟨⟨b,s2⟩,h2,h⟩:=za0 h
  cases h
  unfold zb6
  rw [if_neg (by simp),zb3 h1]
  simp only
  rw [zp7 h2]
theorem znc:∀ {k:Nat}{s t:Str}{l:List (Nat × List Nat)},zb4 k s=some (l,t) → zck k (s,false)=(l,t,false)
 | 0,s,t,l,h=>by
  simp only [zb4] at h
  cases h
  rfl
 | k+1,s,t,l,h=>by
  simp only [zb4] at h
  obtain ⟨⟨v,s1⟩,h1,h⟩:=zan h
  obtain ⟨⟨m,s2⟩,h2,h⟩:=zan h
  obtain ⟨⟨ps,s3⟩,h3,h⟩:=zan h
  obtain ⟨⟨b,s4⟩,h4,h⟩:=za0 h
  cases h
  have e:zhx (s,false)=((v,ps),s3,false):=by
   unfold zhx
   rw [zb3 h1]
   simp only
   rw [zb3 h2]
   simp only
   rw [zp7 h3]
  unfold zck
  rw [if_neg (by simp),e]
  simp only
  rw [znc h4]
theorem z0w {n:Nat}(hn:10 ≤ n) {s:Str}(hno:∀ p:Page,p.Ok → p.check=true → p.enc≠s) (h:zaa):C n 162 [.str s] h=some (.ret (.tup [.agg zax,i64 8]),h):=by
 cases hs:zh0 s with
 | false=>exact zwq (by omega) s hs
 | true =>
  obtain ⟨r,e1,e2⟩:=zrj hn hs
  rw [e1]
  unfold DecS at e2
  cases hp:zd9 s with
  | none=>rw [hp] at e2;simp only at e2;rw [e2]
  | some x =>
   rw [hp] at e2
   obtain ⟨q,hq,ok,e3⟩:=e2
   rw [if_neg (fun c=>hno q ok c.1 c.2)] at e3
   rw [e3]
theorem z4q (s:Str):crcB s=(num (crc s).toNat 4).reverse:=rfl
theorem z02:∀ x:Str,cp x x=x.length
 | []=>rfl
 | a::x=>by simp [cp,z02 x]
theorem zy1 (x:Str):pre2 x x=x:=by
 unfold pre2
 rw [z02,List.take_length]
theorem zr7 (l:List Entry) (lv:Int):(zbr l lv).foldl (fun p e=>pre2 p e.key) ((zbr l lv).headD default).key=shared l lv:=by
 unfold shared
 generalize zbr l lv=t
 cases t with
 | nil=>rfl
 | cons a r=>simp only [List.foldl_cons,zy1,List.drop_succ_cons,List.drop_zero,List.headD_cons]
def zpg (e:Entry):Bool:=zaz e.child&&zar e.count 1 2147483647&&e.val==[]&&e.over==0&&e.len==0
theorem zcr (e:Entry):zbf e=(decide (e.key.length ≤ 48)&&zpg e):=by
 unfold zbf zpg
 cases decide (e.key.length ≤ 48)<;>cases zaz e.child<;>cases zar e.count 1 2147483647<;>cases (e.val==[])<;>cases (e.over==0)<;>cases (e.len==0)<;>rfl
def zej (l:List Freed):Int:=(l.map fun f=>2+(f.pages.length:Int)).sum
theorem z13 (l:List Freed):zej l ≤ zbo l-6 ∧ 0 ≤ zej l:=by
 unfold zej zbo
 induction l with
 | nil=>simp
 | cons f r ih=>simp only [List.map_cons,List.sum_cons] at ih ⊢;omega
theorem zu9 (l:List Freed) {j:Nat}(hj:j<l.length):zej (l.take (j+1))=zej (l.take j)+(2+(l[j].pages.length:Int)):=by
 unfold zej
 rw [List.take_succ_eq_append_getElem hj,List.map_append,List.sum_append]
 simp
abbrev gb (c:UInt32) (i:Nat):Bool:=c.toBitVec.getLsbD i
theorem zn6 {a b:UInt32}(h:∀ i,i<32 → gb a i=gb b i):a=b:=UInt32.toBitVec_inj.1 (BitVec.eq_of_getLsbD_eq h)
theorem zzm (c:UInt32):(c &&& 1=1) ↔ gb c 0=true:=by
 constructor
 ·intro h
  have:=congrArg (fun x:UInt32=>gb x 0) h
  simpa [gb] using this
 ·intro h
  apply zn6
  intro i hi
  simp only [gb,UInt32.toBitVec_and,BitVec.getLsbD_and]
  by_cases h0:i=0
  ·subst h0;simp [h]
  ·have e1:(1:UInt32).toBitVec=1#32:=rfl
   simp [e1,BitVec.getLsbD_one,h0]
theorem ztc (c:UInt32) (i:Nat) (hi:i<32):gb (bit c) i=((gb c (i+1)) ^^ (gb c 0&&gb 3988292384 i)):=by
 unfold bit
 have e2:(c >>> 1).toBitVec=c.toBitVec >>> 1:=by rfl
 by_cases h:c &&& 1=1
 ·rw [if_pos h]
  have h0:=(zzm c).1 h
  simp only [gb,UInt32.toBitVec_xor,BitVec.getLsbD_xor,e2,BitVec.getLsbD_ushiftRight] at h0 ⊢
  rw [h0,Nat.add_comm]
  simp
 ·rw [if_neg h]
  have h0:gb c 0=false:=by
   cases hq:gb c 0 with
   | true=>exact (h ((zzm c).2 hq)).elim
   | false=>rfl
  simp only [gb,e2,BitVec.getLsbD_ushiftRight] at h0 ⊢
  rw [h0,Nat.add_comm]
  simp
theorem z77 (a b:UInt32):bit (a ^^^ b)=bit a ^^^ bit b:=by
 apply zn6
 intro i hi
 have e:gb (bit a ^^^ bit b) i=(gb (bit a) i ^^ gb (bit b) i):=by simp [gb]
 rw [e,ztc _ _ hi,ztc _ _ hi,ztc _ _ hi]
 have e1:∀ j,gb (a ^^^ b) j=(gb a j ^^ gb b j):=fun j=>by simp [gb]
 rw [e1,e1]
 cases gb a (i+1)<;>cases gb b (i+1)<;>cases gb a 0<;>cases gb b 0<;>cases gb 3988292384 i<;>rfl
theorem zu0:∀ (k:Nat) (a b:UInt32),bits k (a ^^^ b)=bits k a ^^^ bits k b
 | 0,a,b=>rfl
 | k+1,a,b=>by show bits k (bit (a ^^^ b))=bits k (bit a) ^^^ bits k (bit b);rw [z77,zu0 k]
theorem z4x {c:UInt32}{w:Nat}(h:c.toNat=2*w):(bit c).toNat=w:=by
 have h1:(c &&& 1).toNat=c.toNat % 2:=by
  rw [UInt32.toNat_and];exact Nat.and_one_is_mod _
 unfold bit
 rw [if_neg (by intro q;have:=congrArg UInt32.toNat q;rw [h1] at this;simp at this;omega)]
 rw [UInt32.toNat_shiftRight]
 show c.toNat >>> 1=w
 rw [Nat.shiftRight_eq_div_pow];omega
theorem zrr:∀ (k:Nat) {c:UInt32}{w:Nat},c.toNat=2 ^ k*w → (bits k c).toNat=w
 | 0,c,w,h=>by simpa [bits] using h
 | k+1,c,w,h=>zrr k (c:=bit c) (z4x (by rw [h,Nat.pow_succ];rw [Nat.mul_comm (2 ^ k) 2,Nat.mul_assoc]))
theorem zw3 (c:UInt32):tab c.toUInt8 ^^^ (c >>> 8)=bits 8 c:=by
 have hc:c=c.toUInt8.toUInt32 ^^^ ((c >>> 8) <<< 8):=by
  apply zn6
  intro i hi
  have e1:((c >>> 8) <<< 8).toBitVec=(c.toBitVec >>> 8) <<< 8:=rfl
  have e2:c.toUInt8.toUInt32.toBitVec=(c.toBitVec.setWidth 8).setWidth 32:=rfl
  simp only [gb,UInt32.toBitVec_xor,BitVec.getLsbD_xor,e1,e2,BitVec.getLsbD_shiftLeft,BitVec.getLsbD_ushiftRight,BitVec.getLsbD_setWidth]
  by_cases h8:i<8
  ·simp [h8,hi]
  ·have:8+(i-8)=i:=by omega
   simp [h8,hi,this]
 have h1:(bits 8 ((c >>> 8) <<< 8)).toNat=(c >>> 8).toNat:=by
  refine zrr 8 ?_
  rw [UInt32.toNat_shiftLeft,UInt32.toNat_shiftRight]
  show (c.toNat >>> 8) <<< 8 % 2 ^ 32=2 ^ 8*(c.toNat >>> 8)
  have:=c.toNat_lt
  rw [Nat.shiftRight_eq_div_pow,Nat.shiftLeft_eq]
  omega
 have h2:bits 8 ((c >>> 8) <<< 8)=c >>> 8:=UInt32.toNat_inj.1 h1
 conv=>rhs;rw [hc,zu0,h2]
 rfl
theorem z09 (c:UInt32) (b:UInt8):tab (c.toUInt8 ^^^ b) ^^^ (c >>> 8)=bits 8 (c ^^^ b.toUInt32):=by
 rw [← zw3]
 have e1:(c ^^^ b.toUInt32).toUInt8=c.toUInt8 ^^^ b:=by
  apply UInt8.toBitVec_inj.1
  apply BitVec.eq_of_getLsbD_eq
  intro i hi
  have e3:(c ^^^ b.toUInt32).toUInt8.toBitVec=(c.toBitVec ^^^ b.toBitVec.setWidth 32).setWidth 8:=rfl
  have e4:(c.toUInt8 ^^^ b).toBitVec=c.toBitVec.setWidth 8 ^^^ b.toBitVec:=rfl
  rw [e3,e4]
  simp [hi]
 have e2:(c ^^^ b.toUInt32) >>> 8=c >>> 8:=by
  apply zn6
  intro i hi
  have e5:((c ^^^ b.toUInt32) >>> 8).toBitVec=(c.toBitVec ^^^ b.toBitVec.setWidth 32) >>> 8:=rfl
  have e6:(c >>> 8).toBitVec=c.toBitVec >>> 8:=rfl
  simp only [gb,e5,e6,BitVec.getLsbD_ushiftRight,BitVec.getLsbD_xor,BitVec.getLsbD_setWidth]
  rw [BitVec.getLsbD_of_ge b.toBitVec (8+i) (by omega)]
  simp
 rw [e1,e2]
theorem z4h (b:UInt8) (r:Str) (c:UInt32):ext (b::r) c=ext r (bits 8 (c ^^^ b.toUInt32)):=by
 unfold ext
 rw [List.foldl_cons,z09]
theorem z7y (a b:Str) (c:UInt32):ext (a++b) c=ext b (ext a c):=by unfold ext;rw [List.foldl_append]
def le:Str → UInt32
 | []=>0
 | b::r=>b.toUInt32 ^^^ (le r <<< 8)
theorem z7b (c:UInt32):((c.toNat:Int)).tmod ((2:UInt32).toNat:Int)=((c &&& 1).toNat:Int):=by
 have h1:(c &&& 1).toNat=c.toNat % 2:=by
  rw [UInt32.toNat_and];exact Nat.and_one_is_mod _
 rw [h1]
 rfl
theorem zu8 (b:UInt8):IntKind.u32.wrap ((b.toNat:Nat):Int)=((b.toUInt32).toNat:Int):=by
 have h:=b.toNat_lt
 rw [UInt8.toNat_toUInt32]
 show (if (IntKind.u32.signed&&decide ((b.toNat:Int) % (2 ^ 32:Int)≥(2 ^ (32-1):Int)))=true then (b.toNat:Int) % (2 ^ 32:Int)-2 ^ 32 else (b.toNat:Int) % (2 ^ 32:Int))=_
 rw [if_neg (by simp [IntKind.signed])]
 omega
section
variable {n:Nat}{h:zaa}
theorem z55 (hn:1 ≤ n) (c:UInt32):C n 189 [u32 c] h=some (.ret (u32 (bit c)),h):=by
 obtain ⟨m,rfl⟩:=pre1 n
 refine zad F189 rfl rfl rfl rfl ?_
 conv=>whnf
 refine remI (by decide) (z7b c) ?_
 have e1:=@z44 (c &&& 1) 1
 conv=>whnf
 refine br (fun a=>?_) (fun a=>?_)
 ·have a':c &&& 1=1:=by simpa [e1] using e1.symm.trans a
  conv=>whnf
  refine ⟨by decide,_,zk8 c 1 (by decide),?_⟩
  conv=>whnf
  refine zI (zn2 _ 3988292384) ?_
  conv=>whnf
  exact retP rfl (zb2 (by simp [bit,a']))
 ·have a':¬ c &&& 1=1:=by simpa [e1] using e1.symm.trans a
  conv=>whnf
  refine ⟨by decide,_,zk8 c 1 (by decide),?_⟩
  conv=>whnf
  exact retP rfl (zb2 (by simp [bit,a']))
theorem z6j (hn:2 ≤ n) (s:Str) (hs:s.length<1099511627776) (c:UInt32):C n 136 [u32 c,.str s] h=some (.ret (u32 (~~~(ext s (~~~c)))),h):=by
 obtain ⟨m,rfl⟩:=pre1 n
 refine zad F136 rfl rfl rfl rfl ?_
 conv=>whnf
 refine zI (zov c) ?_
 conv=>whnf
 refine za3 (by decide) rfl (α:=Nat × UInt32) (fun x=>⟨[(1,.str s),(5,u32 x.2),(6,i64 x.1)],[],[]⟩) (fun x=>x.1 ≤ s.length ∧ x.2=ext (s.take x.1) (~~~c)) (fun x=>s.length-x.1) (0,~~~c) ⟨⟨rfl,rfl,rfl⟩,rfl,rfl⟩ (by simp [ext]) (by show s.length-0<KK;simp only [KK];omega) ?_
 rintro ⟨x,d⟩ ⟨hx,hc⟩
 simp only at hx hc
 conv=>whnf
 refine brd (fun a=>?_) (fun a=>?_)
 ·simp only at a
  have hx':x<s.length:=by omega
  have hst:bits 8 (d ^^^ s[x].toUInt32)=ext (s.take (x+1)) (~~~c):=by
   subst hc
   rw [List.take_succ_eq_append_getElem hx',z7y,z4h]
   rfl
  conv=>whnf
  refine strI (b:=s[x]) (by omega) (by rw [Int.toNat_natCast];exact List.getElem?_eq_getElem hx') ?_
  conv=>whnf
  refine zI (zu8 s[x]) ?_
  conv=>whnf
  refine zI (zn2 d s[x].toUInt32) ?_
  conv=>whnf
  refine za3 (by decide) rfl (α:=Nat) (fun k=>⟨[(1,.str s),(5,u32 (bits k (d ^^^ s[x].toUInt32))),(6,i64 x),(7,i64 k)],[],[]⟩) (fun k=>k ≤ 8) (fun k=>8-k) 0 ⟨⟨rfl,rfl,rfl,rfl⟩,rfl,rfl⟩ (by omega) (by decide) ?_
  intro k hk
  conv=>whnf
  refine brd (fun b=>?_) (fun b=>?_)
  ·conv=>whnf
   refine clI (z55 (by omega) _) ?_
   conv=>whnf
   refine zI (z:=((k+1:Nat):Int)) (by rw [zae (by omega) (by omega)];rfl) ?_
   exact nxI (k+1) (by omega) (by omega) ⟨⟨rfl,by rw [zmj];rfl,rfl,rfl⟩,rfl,rfl⟩
  ·have:k=8:=by omega
   subst this
   rw [hst]
   conv=>whnf
   refine cutI (by decide) rfl (t:=⟨[(1,.str s),(5,u32 (ext (s.take (x+1)) (~~~c))),(6,i64 x)],[],[]⟩) ⟨⟨rfl,rfl,rfl⟩,rfl,rfl⟩ ?_
   conv=>whnf
   refine zI (z:=((x+1:Nat):Int)) (by rw [zae (by omega) (by omega)];rfl) ?_
   exact nxI (x+1,ext (s.take (x+1)) (~~~c)) ⟨hx',rfl⟩ (by simp only;omega) ⟨⟨rfl,rfl,rfl⟩,rfl,rfl⟩
 ·simp only at a
  have:x=s.length:=by omega
  subst this
  rw [List.take_length] at hc
  subst hc
  conv=>whnf
  refine cutI (by decide) rfl (t:=⟨[(5,u32 (ext s (~~~c)))],[],[]⟩) ⟨rfl,rfl,rfl⟩ ?_
  conv=>whnf
  refine zI (zov _) ?_
  conv=>whnf
  exact retP rfl (zb2 rfl)
theorem zyx (hn:3 ≤ n) (s:Str) (hs:s.length<1099511627776):C n 63 [.str s] h=some (.ret (u32 (crc s)),h):=by
 obtain ⟨m,rfl⟩:=pre1 n
 refine zad F63 rfl rfl rfl rfl ?_
 conv=>whnf
 refine clI (z6j (by omega) s hs 0) ?_
 conv=>whnf
 exact retP rfl (zb2 rfl)
theorem z71 {k j:Nat}:((k / 256 ^ j:Nat):Int).tdiv 256=((k / 256 ^ (j+1):Nat):Int):=by
 rw [Int.tdiv_eq_ediv_of_nonneg (Int.natCast_nonneg _),Nat.pow_succ,← Nat.div_div_eq_div_mul]
 rfl
theorem z4u (x:Nat):IntKind.u8.wrap ((x % 256:Nat):Int)=((UInt8.ofNat x).toNat:Int):=by
 rw [UInt8.toNat_ofNat']
 show (if (IntKind.u8.signed&&decide (((x % 256:Nat):Int) % (2 ^ 8:Int)≥(2 ^ (8-1):Int)))=true then ((x % 256:Nat):Int) % (2 ^ 8:Int)-2 ^ 8 else ((x % 256:Nat):Int) % (2 ^ 8:Int))=_
 rw [if_neg (by simp [IntKind.signed])]
 omega
theorem zcp (hn:1 ≤ n) (k w:Nat) (hw:w ≤ 8) (hk:k<9223372036854775808):C n 61 [i64 k,i64 w] h=some (.ret (.str (num k w)),h):=by
 obtain ⟨m,rfl⟩:=pre1 n
 refine zad F61 rfl rfl rfl rfl ?_
 conv=>whnf
 refine ⟨by omega,by omega,by omega,?_⟩
 conv=>whnf
 refine zI (z:=(w:Int)-1) (zae (by omega) (by omega)) ?_
 conv=>whnf
 have hrep:∀ w,rep w [AV.int .u8 0]=(List.replicate w (0:UInt8)).map u8:=fun w=>by
  induction w with
  | zero=>rfl
  | succ w ih=>rw [List.replicate_succ,List.map_cons,← ih];rfl
 refine za3 (by decide) rfl (α:=Nat) (fun j=>⟨[(0,i64 ((k / 256 ^ j:Nat))),(5,.sl 1 0 0 0 w),(6,i64 ((w:Int)-1-j))],[.cells 0 (some 5) ((List.replicate (w-j) (0:UInt8)++num k j).map u8) 0],[]⟩) (fun j=>j ≤ w) (fun j=>w-j) 0 ?_ (Nat.zero_le _) (by show w-0<KK;simp only [KK];omega) ?_
 ·refine ⟨⟨by rw [Nat.pow_zero,Nat.div_one];rfl,rfl,by rw [show (w:Int)-1-((0:Nat):Int)=(w:Int)-1 by omega];rfl⟩,?_,rfl⟩
  show []++[AB.cells 0 (some 5) (rep ((w:Int)).toNat [AV.int IntKind.u8 0]) 0]=_
  rw [Int.toNat_natCast,hrep]
  simp [num]
 ·intro j hj
  conv=>whnf
  refine brd (fun a=>?_) (fun a=>?_)
  ·have hjw:j<w:=by omega
   conv=>whnf
   refine remI (by decide) (z:=((k / 256 ^ j % 256:Nat):Int)) rfl ?_
   conv=>whnf
   refine zI (z:=((UInt8.ofNat (k / 256 ^ j)).toNat:Int)) (z4u _) ?_
   conv=>whnf
   refine ⟨by omega,by omega,rfl,?_⟩
   conv=>whnf
   have hi:0+((w:Int)-1-j).toNat*1=w-j-1:=by omega
   refine stI (cs:=(List.replicate (w-j) (0:UInt8)++num k j).map u8) (xs:=[u8 (UInt8.ofNat (k / 256 ^ j))]) (by rfl) (by rfl) (by rfl) (by rw [Nat.ble_eq,hi];simp [zam];omega) (by rfl) ?_
   conv=>whnf
   have hput:putAt ((List.replicate (w-j) (0:UInt8)++num k j).map u8) (0+((w:Int)-1-j).toNat*1) [u8 (UInt8.ofNat (k / 256 ^ j))]=(List.replicate (w-(j+1)) (0:UInt8)++num k (j+1)).map u8:=by
    rw [hi,show w-j=(w-j-1)+1 by omega,show w-j-1+1-1=w-j-1 by omega,zyy,show w-(j+1)=w-j-1 by omega]
    rfl
   have hle:k / 256 ^ (j+1) ≤ k:=Nat.div_le_self _ _
   refine ⟨by decide,((k / 256 ^ (j+1):Nat):Int),by rw [z71];exact zae (Int.le_trans (by decide) (Int.natCast_nonneg _)) (Int.lt_of_le_of_lt (Int.ofNat_le.2 hle) (by omega)),?_⟩
   conv=>whnf
   refine zI (z:=(w:Int)-1-((j+1:Nat):Int)) (by rw [zae (by omega) (by omega)];omega) ?_
   exact nxI (j+1) hjw (by omega) ⟨⟨rfl,rfl,rfl⟩,congrArg (fun x=>[AB.cells 0 (some 5) x 0]) hput,rfl⟩
  ·have:j=w:=by omega
   subst this
   have hf:=zhm (h:=[AB.cells 0 (some 5) ((List.replicate (j-j) (0:UInt8)++num k j).map u8) 0]) (bb:=0) (ver:=0) (el:=some 5) (s:=num k j) (frz:=0) (by rw [Nat.sub_self];rfl)
   rw [zam] at hf
   conv=>whnf
   refine cutI (by decide) rfl (t:=⟨[(5,.sl 1 0 0 0 j)],[AB.cells 0 (some 5) ((List.replicate (j-j) (0:UInt8)++num k j).map u8) 0],[]⟩) ⟨rfl,rfl,rfl⟩ ?_
   conv=>whnf
   refine ⟨_,num k j,hf,zbt _,?_⟩
   conv=>whnf
   exact retP rfl (zbw rfl)
end
abbrev tRec:Nat:=127
def recB (hp:zaa) (b:Nat) (xs:Str):Prop:=hp[b]?=some (.cells 0 (some tRec) (xs.map u8) 0) ∧ xs.length=64
abbrev recC (xs:Str):AB:=.cells 0 (some tRec) (xs.map u8) 0
theorem zxw {hp:zaa}{b:Nat}{x:AB}(h:hp[b]?=some x):hp.set b x=hp:=by
 apply List.ext_getElem?
 intro i
 rw [List.getElem?_set]
 split
 ·rename_i e
  subst e
  rw [if_pos (zab h)]
  exact h.symm
 ·rfl
def lay (xs:Str) (at':Nat) (ys:Str):Str:=xs.take at'++ys++xs.drop (at'+ys.length)
theorem zfw {xs:Str}{at':Nat}{ys:Str}(h:at'+ys.length ≤ xs.length):(lay xs at' ys).length=xs.length:=by
 unfold lay
 simp only [List.length_append,List.length_take,List.length_drop]
 omega
theorem z7f {xs:Str}{p:Nat}{c:UInt8}:putAt (xs.map u8) p [u8 c]=(lay xs p [c]).map u8:=by
 unfold putAt lay
 simp [List.map_take,List.map_drop]
theorem z36 {xs:Str}{p w:Nat}{c:UInt8}{t:Str}(ht:p+1+t.length=w) (hw:w ≤ xs.length):lay (xs.take (p+1)++t++xs.drop w) p [c]=xs.take p++(c::t)++xs.drop w:=by
 unfold lay
 have h1:(xs.take (p+1)).length=p+1:=by rw [List.length_take];omega
 rw [List.append_assoc (xs.take (p+1)),List.take_append_of_le_length (by omega),List.take_take,Nat.min_eq_left (by omega),List.length_singleton,List.drop_append_of_le_length (by omega),List.drop_of_length_le (l:=xs.take (p+1)) (by omega)]
 simp
section
variable {n:Nat}
theorem put_eq (hn:1 ≤ n) {hp:zaa}{b:Nat}{xs:Str}(hb:recB hp b xs) (at' w k:Nat) (hw:w ≤ 8) (haw:at'+w ≤ 64):C n 134 [.ptr b 0 0,i64 at',i64 w,i64 k] hp=some (.ret (.tup []),hp.set b (recC (lay xs at' (num k w)))):=by
 obtain ⟨m,rfl⟩:=pre1 n
 obtain ⟨hb1,hx⟩:=hb
 have hlt:=zab hb1
 refine za7 F134 rfl rfl ?_
 conv=>whnf
 refine za3 (by decide) rfl (α:=Nat) (fun j=>⟨[(0,.ptr b 0 0),(1,i64 at'),(2,i64 w),(3,i64 k),(9,i64 w),(10,i64 j)],hp.set b (recC (xs.take (at'+w-j)++num k j++xs.drop (at'+w))),[]⟩) (fun j=>j ≤ w) (fun j=>w-j) 0 ⟨⟨rfl,rfl,rfl,rfl,rfl,rfl⟩,?_,rfl⟩ (Nat.zero_le _) (by simp only [KK];omega) ?_
 ·show hp=hp.set b (recC (xs.take (at'+w-0)++num k 0++xs.drop (at'+w)))
  rw [show xs.take (at'+w-0)++num k 0++xs.drop (at'+w)=xs by simp [num],zxw hb1]
 intro j hj
 conv=>whnf
 refine brd (fun a=>?_) (fun a=>?_)
 ·have hjw:j<w:=by omega
  obtain ⟨p,hp'⟩ : ∃ p,at'+w-j=p+1:=⟨at'+w-j-1,by omega⟩
  have hpl:p<64:=by omega
  conv=>whnf
  refine zI (z:=((at'+w:Nat):Int)) (by rw [zae (by omega) (by omega)];omega) ?_
  conv=>whnf
  refine zI (z:=((at'+w:Nat):Int)-1) (zae (by omega) (by omega)) ?_
  conv=>whnf
  refine zI (z:=(p:Int)) (by rw [zae (by omega) (by omega)];omega) ?_
  conv=>whnf
  refine zI (z:=8*(j:Int)) (zae (by omega) (by omega)) ?_
  conv=>whnf
  refine ⟨by omega,_,rfl,?_⟩
  conv=>whnf
  refine zI (z1a (k:=k) (i:=j) (by omega)) ?_
  conv=>whnf
  refine ⟨by omega,by omega,?_⟩
  conv=>whnf
  refine stI (List.getElem?_set_self hlt) (xs:=[u8 (UInt8.ofNat (k / 256 ^ j))]) (by rfl) (by rfl) (by rw [Nat.ble_eq,List.length_map];simp only [List.length_append,List.length_take,List.length_drop,zam,List.length_cons,List.length_nil];omega) (by rfl) ?_
  conv=>whnf
  refine zJ j ?_
  refine nxI (j+1) hjw (by omega) ⟨⟨rfl,rfl,rfl,rfl,rfl,rfl⟩,?_,rfl⟩
  have e:at'+w-(j+1)=p:=by omega
  show List.set (List.set hp b _) b (AB.cells 0 (some tRec) (putAt ((xs.take (at'+w-j)++num k j++xs.drop (at'+w)).map u8) (0+((p:Nat):Int).toNat*1) [u8 (UInt8.ofNat (k / 256 ^ j))]) 0)=hp.set b (recC (xs.take (at'+w-(j+1))++num k (j+1)++xs.drop (at'+w)))
  rw [List.set_set,e,hp',Int.toNat_natCast,Nat.mul_one,Nat.zero_add,z7f,z36 (w:=at'+w) (by rw [zam];omega) (by omega)]
  rfl
 ·have hjw:j=w:=by omega
  subst hjw
  conv=>whnf
  refine ⟨rfl,[],rfl,rfl,?_⟩
  show hp.set b (recC (xs.take (at'+j-j)++num k j++xs.drop (at'+j)))=_
  unfold lay
  rw [zam,Nat.add_sub_cancel]
theorem zqz (hn:1 ≤ n) {hp:zaa}{b:Nat}{xs:Str}(hb:recB hp b xs) (at' w:Nat) (hw:w ≤ 6) (hw0:0<w) (haw:at'+w ≤ 64):C n 65 [.ptr b 0 0,i64 at',i64 w] hp=some (.ret (i64 (zah ((xs.drop at').take w))),hp):=by
 obtain ⟨m,rfl⟩:=pre1 n
 obtain ⟨hb1,hx⟩:=hb
 have hlt:=zab hb1
 have hlen:((xs.drop at').take w).length=w:=by rw [List.length_take,List.length_drop];omega
 refine za7 F65 rfl rfl ?_
 conv=>whnf
 refine zI (z:=((at'+w:Nat):Int)) (by rw [zae (by omega) (by omega)];omega) ?_
 conv=>whnf
 refine ⟨_,_,_,hb1,⟨by rw [List.length_map,hx];decide,by decide⟩,?_⟩
 have hsl:zcb 1 (.sl 1 b 0 0 64) (some ((at':Nat):Int)) (some ((at'+w:Nat):Int)) none=some (.sl 1 b 0 at' w):=by
  unfold zcb
  simp only [Option.getD_some]
  rw [if_pos ⟨by omega,by omega,by omega,trivial⟩,if_neg (by omega),show 0+((at':Nat):Int).toNat*1=at' by omega,show (((at'+w:Nat):Int)-((at':Nat):Int)).toNat=w by omega]
 refine slI hsl ?_
 conv=>whnf
 refine za3 (by decide) rfl (α:=Nat) (fun j=>⟨[(7,i64 (zah (((xs.drop at').take w).take j))),(16,.sl 1 b 0 at' w),(17,i64 w),(18,i64 j)],hp,[]⟩) (fun j=>j ≤ w) (fun j=>w-j) 0 ⟨⟨rfl,rfl,rfl,rfl⟩,rfl,rfl⟩ (Nat.zero_le _) (by simp only [KK];omega) ?_
 intro j hj
 conv=>whnf
 refine brd (fun a=>?_) (fun a=>?_)
 ·have hjw:j<w:=by omega
  have hjt:j<((xs.drop at').take w).length:=by omega
  have hb:=zcm j (((xs.drop at').take w).take j) (by rw [List.length_take];omega)
  have hb2:256 ^ j ≤ 256 ^ 5:=Nat.pow_le_pow_right (by decide) (by omega)
  have hst:zah (((xs.drop at').take w).take j)*256+(((xs.drop at').take w)[j]).toNat=zah (((xs.drop at').take w).take (j+1)):=by
   rw [List.take_succ_eq_append_getElem hjt,zga]
  have hx6:zah (((xs.drop at').take w).take j)<36028797018963968:=by
   have:(256:Nat) ^ 5=1099511627776:=by decide
   omega
  have hcell:(xs.map u8)[at'+j]?=some (u8 (((xs.drop at').take w)[j])):=by
   rw [List.getElem?_map,List.getElem?_eq_getElem (by omega)]
   simp
  conv=>whnf
  refine ⟨by omega,by omega,rfl,?_⟩
  conv=>whnf
  refine ldI hb1 ?_
  refine zdr (v:=u8 (((xs.drop at').take w)[j])) (by show (xs.map u8)[at'+(j:Int).toNat*1]?=_;rw [Int.toNat_natCast,Nat.mul_one];exact hcell) ?_
  conv=>whnf
  refine ⟨by decide,_,zty _ hx6,?_⟩
  conv=>whnf
  refine zI (z:=((((xs.drop at').take w)[j]).toNat:Int)) (by have:=(((xs.drop at').take w)[j]).toNat_lt;exact zae (by omega) (by omega)) ?_
  conv=>whnf
  refine zI (zzb _ _ hx6) ?_
  conv=>whnf
  refine zJ j ?_
  exact nxI (j+1) hjw (by omega) ⟨⟨by rw [← hst];rfl,rfl,rfl,rfl⟩,rfl,rfl⟩
 ·have hjw:j=w:=by omega
  subst hjw
  conv=>whnf
  refine cutI (by decide) rfl (t:=⟨[(7,i64 (zah (((xs.drop at').take j))))],hp,[]⟩) ⟨by show some (i64 (zah (((xs.drop at').take j).take j)))=_;rw [List.take_take,Nat.min_self],rfl,rfl⟩ ?_
  exact ⟨rfl,[i64 (zah ((xs.drop at').take j))],rfl,rfl,rfl⟩
end
end Go.Proofs
