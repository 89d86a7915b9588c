/- Texts put together: Gb, Wf, Wg, Gc, Wr0, Wr, Gd, Ge, Hb, Rn, Ro, Hc. -/
import Derived.Test.YtalaebjjleddaaaGreatFpg9
import Derived.Test.YtalaebjjleddaaaGreatFpg8
import Derived.Test.YtalaebjjleddaaaGreatFpg7
set_option linter.unusedVariables false
set_option linter.unusedSimpArgs false
namespace Go.Proofs
open Go Go.Abs
structure Page where
 kind:Int
 no:Int
 ver:Int
 tree:Int
 level:Int
 top:Bool
 esh:Sh
 entries:List Entry
 next:Int
 data:Str
 fsh:Sh
 freed:List Freed
def Page.cells (p:Page):List AV:=[i64 p.kind,i64 p.no,i64 p.ver,i64 p.tree,i64 p.level,.bool p.top,.lst p.esh.sz (p.entries.map Entry.av) p.esh.c,i64 p.next,.str p.data,.lst p.fsh.sz (p.freed.map Freed.av) p.fsh.c]
def Page.av (p:Page):AV:=.agg p.cells
structure Page.Ok (p:Page):Prop where
 esz:p.entries≠[] → p.esh.sz=22
 fsz:p.freed≠[] → p.fsh.sz=2
 elen:p.entries.length<1099511627776
 flen:p.freed.length<1048576
 dlen:p.data.length<1099511627776
 ent:∀ e∈p.entries,e.Ok
 fr:∀ f∈p.freed,f.Ok ∧ f.pages.length<9223372036854775808
theorem zcm (p:Page):p.av.cells?=some p.cells:=rfl
theorem zef (f:Freed):f.av.pureB=true:=by
 show zam [i64 f.ver,.lst f.sh.sz (f.pages.map i64) f.sh.c]=true
 simp [zam,AV.pureB,zcb (f:=i64) (fun _=>rfl)]
theorem zb5 (p:Page):p.av.pureB=true:=by
 show zam p.cells=true
 simp [Page.cells,zam,AV.pureB,zcb zcy,zcb zef]
theorem zyc (a b:Bool):eqA Tryz.prog 20 4 (.bool a) (.bool b)=some (a==b):=by kernel_rfl
def zia (n:Int):Bool:=n==0||za7 n
def Page.plain (p:Page):Bool:=p.tree==0&&(p.level==0&&(!p.top&&(p.entries.length:Int)==0))
def pgAt (l:List Int) (k:Nat):Bool:=za7 (l.getD k 0)&&(k==0||decide (l.getD (k-1) 0<l.getD k 0))
def zku (l:List Int):Bool:=(List.range l.length).all (pgAt l)
instance:Inhabited Freed:=⟨⟨0,⟨0,true⟩,[]⟩⟩
def frAt (l:List Freed) (k:Nat):Bool:=(za5 (l.getD k default).ver 0 1099511627776&&(((l.getD k default).pages.length:Int) != 0&&(k==0||decide ((l.getD (k-1) default).ver<(l.getD k default).ver))))&&zku (l.getD k default).pages
def zet (l:List Freed):Bool:=(List.range l.length).all (frAt l)
def zbu (l:List Freed):Int:=6+(l.map fun f=>8+4*(f.pages.length:Int)).sum
def Page.check (p:Page):Bool:=za7 p.no&&(za5 p.ver 0 1099511627776&&(if p.kind=1 ∨ p.kind=2 then za5 p.tree 0 255&&(((p.kind==1)==(p.level==0))&&(fits p.entries p.level&&(p.next==0&&(p.data==[]&&(p.freed.length:Int)==0))))
 else if p.kind=3 then p.plain&&(zia p.next&&(za5 p.data.length 1 490&&(p.freed.length:Int)==0)) else if p.kind=4 then p.plain&&(zia p.next&&(p.data==[]&&(zet p.freed&&decide (zbu p.freed ≤ 496)))) else false))
theorem zrc {p:Nat → Bool}{n j:Nat}(hj:j<n) (hb:p j=false):(List.range n).all p=false:=by
 rw [List.all_eq_false];exact ⟨j,List.mem_range.2 hj,by simp [hb]⟩
theorem zs2 {p:Nat → Bool}{n:Nat}(h:∀ i,i<n → p i=true):(List.range n).all p=true:=by
 rw [List.all_eq_true];exact fun i hi=>h i (List.mem_range.1 hi)
theorem zs1 {p:Nat → Bool}{j:Nat}(h:∀ i,i<j → p i=true) (hj:p j=true):∀ i,i<j+1 → p i=true:=fun i hi=>by
 by_cases e:i=j
 ·rw [e];exact hj
 ·exact h i (by omega)
theorem zip {l:List Int}{j:Nat}(hj:j<l.length):pgAt l j=(za7 l[j]&&(decide (j=0)||decide (l[j-1]<l[j]))):=by
 have h1:l.getD j 0=l[j]:=by simp [hj]
 have h2:l.getD (j-1) 0=l[j-1]:=by simp [show j-1<l.length by omega]
 have h3:(j==0)=decide (j=0):=by by_cases e:j=0<;>simp [e]
 unfold pgAt;rw [h1,h2,h3]
theorem zm4 {l:List Freed}{j:Nat}(hj:j<l.length):frAt l j=((za5 l[j].ver 0 1099511627776&&((l[j].pages.length:Int) != 0&&(decide (j=0)||decide (l[j-1].ver<l[j].ver))))&&zku l[j].pages):=by
 have h1:l.getD j default=l[j]:=by simp [hj]
 have h2:l.getD (j-1) default=l[j-1]:=by simp [show j-1<l.length by omega]
 have h3:(j==0)=decide (j=0):=by by_cases e:j=0<;>simp [e]
 unfold frAt;rw [h1,h2,h3]
section
variable {n:Nat}{h:zaa}
theorem z02 (hn:1 ≤ n) (p:Page):C n 193 [p.av] h=some (.ret (.bool p.plain),h):=by
 obtain ⟨m,rfl⟩:=pre1 n
 refine zak F193 rfl rfl rfl (by simp [zam,zb5]) ?_
 repeat' (conv=>whnf);first
  | refine retP rfl (zas ?_)
  | refine brd (fun _=>?_) (fun _=>?_)
  | refine bre (fun _=>?_) (fun _=>?_)
  | refine brq (fun _=>?_) (fun _=>?_)
  | refine brn (fun _=>?_) (fun _=>?_)
  | refine br (fun _=>?_) (fun _=>?_)
  | refine ldI (by rfl) ?_
  | refine ldI (zaf _ _ _) ?_
  | refine ldI (zad _ _) ?_
  | refine stJ (by rfl) ?_
  | refine stJ (zad _ _) ?_
  | refine cutS (by decide) rfl ?_
 all_goals simp_all [Page.plain]
theorem zxf (hn:3 ≤ n) (k:Int):C n 194 [i64 k] h=some (.ret (.bool (zia k)),h):=by
 obtain ⟨m,rfl⟩:=pre1 n
 refine zak F194 rfl rfl rfl rfl ?_
 repeat' (conv=>whnf);first
  | refine clI (zds (by omega) _) ?_
  | refine retP rfl (zas ?_)
  | refine brd (fun _=>?_) (fun _=>?_)
  | refine bre (fun _=>?_) (fun _=>?_)
  | refine brq (fun _=>?_) (fun _=>?_)
  | refine brn (fun _=>?_) (fun _=>?_)
  | refine br (fun _=>?_) (fun _=>?_)
  | refine ldI (by rfl) ?_
  | refine ldI (zaf _ _ _) ?_
  | refine ldI (zad _ _) ?_
  | refine stJ (by rfl) ?_
  | refine stJ (zad _ _) ?_
  | refine cutS (by decide) rfl ?_
 all_goals simp_all [zia]
theorem zh9:∀ (l:List Freed),(∀ f∈l,f.pages.length<1048576) → 6 ≤ zbu l ∧ zbu l ≤ 6+4194312*l.length
 | [],_=>by simp [zbu]
 | f::r,hf=>by
  have h1:=zh9 r fun g hg=>hf g (List.mem_cons_of_mem _ hg)
  have h2:=hf f (List.mem_cons_self ..)
  simp only [zbu,List.map_cons,List.sum_cons,List.length_cons] at h1 ⊢
  omega
theorem zqk (l:List Freed) {j:Nat}(hj:j<l.length):zbu (l.take (j+1))=zbu (l.take j)+(8+4*(l[j].pages.length:Int)):=by
 rw [List.take_succ_eq_append_getElem hj]
 unfold zbu
 rw [List.map_append,List.sum_append]
 simp only [List.map_cons,List.map_nil,List.sum_cons,List.sum_nil]
 omega
theorem zxe (hn:1 ≤ n) (l:List Freed) (hl:l.length<1048576) (hf:∀ f∈l,f.Ok ∧ f.pages.length<1048576) (sz:Nat) (hz:l≠[] → sz=2) (c:Bool):C n 196 [.lst sz (l.map Freed.av) c] h=some (.ret (i64 (zbu l)),h):=by
 obtain ⟨m,rfl⟩:=pre1 n
 refine zak F196 rfl rfl rfl (zch zef l rfl) ?_
 conv=>whnf
 refine za1 (by decide) rfl (α:=Nat × zaa) (fun x=>⟨[(3,i64 (zbu (l.take x.1))),(6,.lst sz (l.map Freed.av) c),(7,i64 l.length),(8,i64 x.1)],x.2,[]⟩) (fun x=>x.1 ≤ l.length) (fun x=>l.length-x.1) (0,[]) ⟨⟨rfl,rfl,lenI _ _,rfl⟩,rfl,rfl⟩ (Nat.zero_le _) (by show l.length-0<KK;simp only [KK];omega) ?_
 rintro ⟨j,hp⟩ g1
 simp only at g1
 conv=>whnf
 refine brd (fun a=>?_) (fun a=>?_)
 ·have hj:j<l.length:=by simp only at a;omega
  obtain ⟨k1,k2⟩:=hf _ (List.getElem_mem hj)
  have hb:=zh9 (l.take j) fun f h=>(hf f (List.mem_of_mem_take h)).2
  rw [List.length_take] at hb
  have el:((l[j].pages.map i64).length:Int)=(l[j].pages.length:Int):=by rw [List.length_map]
  conv=>whnf
  refine ixL zbw hj hz ?_
  conv=>whnf
  refine stJ (zad _ _) ?_
  conv=>whnf
  refine ldI (zaf _ _ _) ?_
  conv=>whnf
  refine zI (z:=4*(l[j].pages.length:Int)) (by rw [el,zae (by omega) (by omega)]) ?_
  conv=>whnf
  refine zI (z:=8+4*(l[j].pages.length:Int)) (zae (by omega) (by omega)) ?_
  conv=>whnf
  refine zI (z:=zbu (l.take (j+1))) (by rw [zqk l hj,zae (by simp only;omega) (by simp only;omega)]) ?_
  conv=>whnf
  refine zJ j ?_
  exact nxI (j+1,_) hj (by simp only;omega) ⟨⟨rfl,rfl,rfl,rfl⟩,rfl,rfl⟩
 ·have hj:j=l.length:=by simp only at a;omega
  subst hj
  conv=>whnf
  refine cutI (by decide) rfl (t:=⟨[(3,i64 (zbu l))],hp,[]⟩) ⟨by rw [List.take_length];rfl,rfl,rfl⟩ ?_
  conv=>whnf
  exact retP rfl (zb2 rfl)
theorem z20 {l:List Int}(h:zku l=true):∀ i (hi:i<l.length),(2:Int)+i ≤ l[i] ∧ l[i] ≤ 4095
 | 0,hi=>by
  have:=List.all_eq_true.1 h 0 (List.mem_range.2 hi)
  rw [zip hi] at this
  simp [za7,za5] at this
  omega
 | i+1,hi=>by
  have h0:=z20 h i (by omega)
  have:=List.all_eq_true.1 h (i+1) (List.mem_range.2 hi)
  rw [zip hi] at this
  simp [za7,za5] at this
  omega
theorem zwt {l:List Int}(h:zku l=true):l.length ≤ 4094:=by
 rcases Nat.eq_zero_or_pos l.length with e | e
 ·omega
 ·have:=z20 h (l.length-1) (by omega)
  omega
theorem zxz {l:List Freed}(h:zet l=true) (hf:∀ f∈l,f.Ok ∧ f.pages.length<9223372036854775808):∀ f∈l,f.Ok ∧ f.pages.length<1048576:=fun f hm=>by
 obtain ⟨i,hi,rfl⟩:=List.getElem_of_mem hm
 have:=List.all_eq_true.1 h i (List.mem_range.2 hi)
 rw [zm4 hi,Bool.and_eq_true] at this
 have:=zwt this.2
 exact ⟨(hf _ hm).1,by omega⟩
theorem z05 {m:Nat}(hm:2 ≤ m) (l:List Int) (hl:l.length<9223372036854775808) (sz:Nat) (hz:l≠[] → sz=1) (c:Bool) (f:Freed) (hf:f=⟨f.ver,⟨sz,c⟩,l⟩) {hp:zaa}{E:Nat}(hE0:hp[E]?=some (.cells 0 (some 145) f.cells 0)) {Q:Ex → LS → Prop}{s:LS}(v0 v7 v8 v9:AV)
  (hs:LS.sub ⟨[(0,v0),(4,.ptr E 0 0),(7,v7),(8,v8),(9,v9),(40,.lst sz (l.map i64) c),(41,i64 l.length),(42,i64 0)],hp,[]⟩ s)
  (hE:zku l=true → ∀ L,subL [(0,v0),(7,v7),(8,v8),(9,v9)] L → Q (.exit 2) ⟨L,hp,[]⟩) (hR:zku l=false → ∀ L,lk L 2=some (.bool false) → Q .ret ⟨L,hp,[]⟩) :
  OkR Tryz.prog (C m) cfg0.inl KK 66 7 (.loop (c195.lp 1)) s Q:=by
 refine za1 (by decide) rfl (α:=Nat) (fun x=>⟨[(0,v0),(4,.ptr E 0 0),(7,v7),(8,v8),(9,v9),(40,.lst sz (l.map i64) c),(41,i64 l.length),(42,i64 x)],hp,[]⟩) (fun x=>x ≤ l.length ∧ ∀ i,i<x → pgAt l i=true) (fun x=>l.length-x) 0 hs ⟨Nat.zero_le _,fun i hi=>absurd hi (Nat.not_lt_zero _)⟩ (by show l.length-0<KK;simp only [KK];omega) ?_
 rintro j ⟨g1,g2⟩
 have e0:f.cells=[i64 f.ver,.lst sz (l.map i64) c]:=by rw [hf];rfl
 rw [e0] at hE0
 conv=>whnf
 refine brd (fun a=>?_) (fun a=>?_)
 ·have hj:j<l.length:=by omega
  repeat' (conv=>whnf);first
   | refine ixL (l:=l) (j:=j) zcr hj hz ?_
   | refine ixL (l:=l) (j:=j-1) zcr (by omega) hz ?_
   | refine clI (zds (by omega) _) ?_
   | refine ldI hE0 ?_
   | refine zI (z:=((j-1:Nat):Int)) (by rw [zae (by omega) (by omega)];omega) ?_
   | refine zJ j ?_
   | refine hR (zrc hj ?_) _ rfl
   | refine nxI (j+1) ⟨hj,zs1 g2 ?_⟩ (by omega) ⟨⟨rfl,rfl,rfl,rfl,rfl,rfl,rfl,rfl⟩,rfl,rfl⟩
   | (exfalso;omega)
   | refine brd (fun _=>?_) (fun _=>?_)
   | refine bre (fun _=>?_) (fun _=>?_)
   | refine brq (fun _=>?_) (fun _=>?_)
   | refine brn (fun _=>?_) (fun _=>?_)
   | refine br (fun _=>?_) (fun _=>?_)
   | refine ldI (by rfl) ?_
   | refine ldI (zaf _ _ _) ?_
   | refine ldI (zad _ _) ?_
   | refine stJ (by rfl) ?_
   | refine stJ (zad _ _) ?_
   | refine zI (zae (by omega) (by omega)) ?_
   | refine cutS (by decide) rfl ?_
  all_goals clear hf e0 hE0 hE hR hs
  all_goals rw [zip hj]
  all_goals by_cases hj0:j=0
  all_goals simp_all
  all_goals omega
 ·have hj:j=l.length:=by omega
  subst hj
  conv=>whnf
  exact hE (zs2 g2) _ ⟨rfl,rfl,rfl,rfl⟩
theorem z1w (hn:3 ≤ n) (l:List Freed) (hl:l.length<1048576) (hf:∀ f∈l,f.Ok ∧ f.pages.length<9223372036854775808) (sz:Nat) (hz:l≠[] → sz=2) (c:Bool):C n 195 [.lst sz (l.map Freed.av) c] h=some (.ret (.bool (zet l)),h):=by
 obtain ⟨m,rfl⟩:=pre1 n
 refine zak F195 rfl rfl rfl (zch zef l rfl) ?_
 conv=>whnf
 refine za1 (by decide) rfl (α:=Nat × zaa) (fun x=>⟨[(0,.lst sz (l.map Freed.av) c),(7,.lst sz (l.map Freed.av) c),(8,i64 l.length),(9,i64 x.1)],x.2,[]⟩) (fun x=>x.1 ≤ l.length ∧ ∀ i,i<x.1 → frAt l i=true) (fun x=>l.length-x.1) (0,[]) ⟨⟨rfl,rfl,lenI _ _,rfl⟩,rfl,rfl⟩ ⟨Nat.zero_le _,fun i hi=>absurd hi (Nat.not_lt_zero _)⟩ (by show l.length-0<KK;simp only [KK];omega) ?_
 rintro ⟨j,hp⟩ ⟨g1,g2⟩
 simp only at g1 g2
 conv=>whnf
 refine brd (fun a=>?_) (fun a=>?_)
 ·have hj:j<l.length:=by simp only at a;omega
  obtain ⟨k1,k2⟩:=hf _ (List.getElem_mem hj)
  have el:((l[j].pages.map i64).length:Int)=(l[j].pages.length:Int):=by rw [List.length_map]
  conv=>whnf
  refine ixL zbw hj hz ?_
  conv=>whnf
  refine stJ (zad _ _) ?_
  have good:∀ {Q:Ex → LS → Prop}(s':LS),LS.sub ⟨[(0,.lst sz (l.map Freed.av) c),(4,.ptr hp.length 0 0),(7,.lst sz (l.map Freed.av) c),(8,i64 l.length),(9,i64 j)],((hp++[AB.cells 0 (some 145) [i64 0,.lst 0 [] true] 0]).set hp.length (.cells 0 (some 145) l[j].cells 0)),[]⟩ s' →
    (zku l[j].pages=true → ∀ L,subL [(0,.lst sz (l.map Freed.av) c),(7,.lst sz (l.map Freed.av) c),(8,i64 l.length),(9,i64 j)] L → Q .norm ⟨L,((hp++[AB.cells 0 (some 145) [i64 0,.lst 0 [] true] 0]).set hp.length (.cells 0 (some 145) l[j].cells 0)),[]⟩) → (zku l[j].pages=false → ∀ L,lk L 2=some (.bool false) → Q .ret ⟨L,((hp++[AB.cells 0 (some 145) [i64 0,.lst 0 [] true] 0]).set hp.length (.cells 0 (some 145) l[j].cells 0)),[]⟩) →
    OkR Tryz.prog (C m) cfg0.inl KK 66 7 (ze3 (c195.lp 0)) s' Q:=by
   intro Q s' hs' hT hF
   refine cutI (by decide) rfl hs' ?_
   conv=>whnf
   refine ldI (zaf _ _ _) ?_
   conv=>whnf
   refine z05 (by omega) l[j].pages k2 l[j].sh.sz k1 l[j].sh.c l[j] rfl (zaf _ _ _) (.lst sz (l.map Freed.av) c) (.lst sz (l.map Freed.av) c) (i64 l.length) (i64 j) ⟨⟨rfl,rfl,rfl,rfl,rfl,rfl,lenI i64 _,rfl⟩,rfl,rfl⟩ (fun q L hL=>?_) (fun q L hk=>?_)
   ·conv=>whnf
    exact hT q L hL
   ·conv=>whnf
    exact hF q L hk
  repeat' (conv=>whnf);first
   | refine ldI (zaf _ _ _) ?_
   | refine ixL (l:=l) (j:=j-1) zbw (by omega) hz ?_
   | refine clI (zco (by omega) _ _ _) ?_
   | refine zI (z:=((j-1:Nat):Int)) (by rw [zae (by omega) (by omega)];omega) ?_
   | refine zJ j ?_
   | refine good _ ⟨⟨rfl,rfl,rfl,rfl,rfl⟩,rfl,rfl⟩ (fun _ _ _=>?_) (fun _ _ _=>?_)
   | refine cutI (by decide) rfl (t:=⟨[(0,.lst sz (l.map Freed.av) c),(7,.lst sz (l.map Freed.av) c),(8,i64 l.length),(9,i64 j)],_,[]⟩) ⟨(by assumption),rfl,rfl⟩ ?_
   | refine nxI (j+1,_) ⟨hj,zs1 g2 ?_⟩ (by simp only;omega) ⟨⟨rfl,rfl,rfl,rfl⟩,rfl,rfl⟩
   | refine retK (by assumption) (zas (zrc hj ?_).symm)
   | refine retP rfl (zas (zrc hj ?_).symm)
   | (exfalso;omega)
   | refine brd (fun _=>?_) (fun _=>?_)
   | refine bre (fun _=>?_) (fun _=>?_)
   | refine brq (fun _=>?_) (fun _=>?_)
   | refine brn (fun _=>?_) (fun _=>?_)
   | refine br (fun _=>?_) (fun _=>?_)
   | refine ldI (by rfl) ?_
   | refine ldI (zaf _ _ _) ?_
   | refine ldI (zad _ _) ?_
   | refine stJ (by rfl) ?_
   | refine stJ (zad _ _) ?_
   | refine zI (zae (by omega) (by omega)) ?_
  all_goals clear good
  all_goals rw [zm4 hj]
  all_goals try simp only [el] at *
  all_goals by_cases hj0:j=0
  all_goals simp_all
  all_goals omega
 ·have hj:j=l.length:=by simp only at a;omega
  subst hj
  conv=>whnf
  refine cutI (by decide) rfl (t:=⟨[],hp,[]⟩) ⟨trivial,rfl,rfl⟩ ?_
  conv=>whnf
  exact retP rfl (zas (zs2 g2).symm)
end
theorem zyn:∀ (x y:Str),x.take (cp x y)=y.take (cp x y)
 | [],y=>by simp [cp]
 | a::x,[]=>by simp [cp]
 | a::x,b::y=>by
  simp only [cp]
  split
  ·rename_i h;subst h;simp [zyn x y]
  ·rfl
theorem zwo (p k:Str):pre2 p k <+: p:=List.take_prefix _ _
theorem ztw (p k:Str):pre2 p k <+: k:=by unfold pre2;rw [zyn];exact List.take_prefix _ _
theorem zjy:∀ (l:List Entry) (p:Str),l.foldl (fun p e=>pre2 p e.key) p <+: p ∧ ∀ e∈l,l.foldl (fun p e=>pre2 p e.key) p <+: e.key
 | [],p=>⟨List.prefix_refl _,fun e h=>by cases h⟩
 | a::r,p=>by
  obtain ⟨h1,h2⟩:=zjy r (pre2 p a.key)
  refine ⟨h1.trans (zwo _ _),fun e he=>?_⟩
  rcases List.mem_cons.1 he with rfl | he
  ·exact h1.trans (ztw _ _)
  ·exact h2 e he
theorem zg2 (l:List Entry) (lv:Int):∀ e∈zd4 l lv,shared l lv <+: e.key:=by
 intro e he
 unfold shared
 cases ht:zd4 l lv with
 | nil=>rw [ht] at he;cases he
 | cons a r =>
  rw [ht] at he
  obtain ⟨h1,h2⟩:=zjy r a.key
  rcases List.mem_cons.1 he with rfl | he
  ·exact h1
  ·exact h2 e he
def zd7 (l:List Entry) (lv:Int) (i:Nat):Nat:=if i=0 ∧ 0<lv then 0 else (shared l lv).length
theorem zpg {l:List Entry}{lv:Int}{i:Nat}(hi:i<l.length) (h:¬ (i=0 ∧ 0<lv)):shared l lv <+: l[i].key:=by
 refine zg2 l lv _ ?_
 unfold zd4
 split
 ·rename_i hl
  obtain ⟨k,rfl⟩ : ∃ k,i=k+1:=⟨i-1,by omega⟩
  rw [List.mem_iff_getElem]
  exact ⟨k,by simp;omega,by simp [Nat.add_comm]⟩
 ·exact List.getElem_mem hi
theorem zss {l:List Entry}{lv:Int}{i:Nat}(hi:i<l.length):zd7 l lv i ≤ l[i].key.length:=by
 unfold zd7
 split
 ·omega
 ·rename_i h;exact (zpg hi h).length_le
theorem z4t {e:Entry}(hf:za3 e≠0):e.Nn ∧ e.key.length ≤ 48 ∧ e.val.length ≤ 64:=by
 have hk:=zm5 hf
 unfold za3 at hf
 split at hf
 ·exact (hf rfl).elim
 split at hf
 ·rename_i h
  simp [zer] at h
  obtain ⟨⟨⟨⟨⟨h1,h2⟩,h3⟩,h4⟩,_⟩,h5⟩:=h
  exact ⟨⟨by omega,by omega,by omega,by omega⟩,by omega,h5⟩
 split at hf
 ·exact (hf rfl).elim
 rename_i hv
 simp at hv
 split at hf
 ·rename_i h
  simp [zju,za7,za5] at h
  exact ⟨⟨by omega,by omega,by omega,by omega⟩,by omega,by simp [hv]⟩
 split at hf
 ·rename_i h
  simp [zjt,za7,za5] at h
  exact ⟨⟨by omega,by omega,by omega,by omega⟩,by omega,by simp [hv]⟩
 ·exact (hf rfl).elim
theorem zw8 {e:Entry}(h:zbx e=true):e.Nn ∧ e.key.length ≤ 48 ∧ e.val.length ≤ 64:=by
 simp [zbx,za7,za5] at h
 obtain ⟨⟨⟨⟨⟨h1,h2⟩,h3⟩,h4⟩,h5⟩,h6⟩:=h
 exact ⟨⟨by omega,by omega,by omega,by omega⟩,by omega,by simp [h2]⟩
theorem zrm {l:List Entry}{lv:Int}(hv:zdp l lv=true):∀ e∈l,e.Nn ∧ e.key.length ≤ 48 ∧ e.val.length ≤ 64:=by
 obtain ⟨h1,h2,h3,h4⟩:=valid_iff.1 hv
 intro e he
 obtain ⟨j,hj,rfl⟩:=List.getElem_of_mem he
 have:=h4 j hj
 rw [zix hj] at this
 by_cases e0:lv=0
 ·subst e0
  simp at this
  exact z4t this.1
 ·simp [e0] at this
  exact zw8 this.1.1
def zej (l:List Entry) (lv:Int) (k:Nat):Str:=(List.range k).flatMap fun i=>entB (zd7 l lv i) (l.getD i default) lv
def zok (l:List Entry) (lv:Int) (base k:Nat):Str:=(List.range k).flatMap fun i=>num (base+(zej l lv i).length) 2
def zkv (tree lv:Int) (top:Bool) (l:List Entry) (base:Nat):Str :=
 num tree.toNat 1++(num lv.toNat 1++(num (if top then 1 else 0) 1++(num (shared l lv).length 1++(num l.length 2++(shared l lv++(zok l lv (base+6+(shared l lv).length+2*l.length) l.length++zej l lv l.length))))))
theorem zei (l:List Entry) (lv:Int) {k:Nat}(hk:k<l.length):zej l lv (k+1)=zej l lv k++entB (zd7 l lv k) l[k] lv:=by
 unfold zej
 rw [List.range_succ,List.flatMap_append,List.flatMap_cons,List.flatMap_nil,List.append_nil,← zqo hk]
theorem zlm (l:List Entry) (lv:Int) (base k:Nat):zok l lv base (k+1)=zok l lv base k++num (base+(zej l lv k).length) 2:=by
 unfold zok
 rw [List.range_succ,List.flatMap_append,List.flatMap_cons,List.flatMap_nil,List.append_nil]
theorem zfg (l:List Entry) (lv:Int) (base:Nat):∀ k,(zok l lv base k).length=2*k
 | 0=>rfl
 | k+1=>by rw [zlm,List.length_append,zfg l lv base k,zal];omega
theorem zsp (c:Nat) (e:Entry) (lv:Int):(entB c e lv).length ≤ 27+e.key.length+e.val.length ∧ 1 ≤ (entB c e lv).length:=by
 have:=zoc e lv
 unfold entB
 simp only [List.length_append,zal,List.length_drop]
 omega
theorem zj7 {l:List Entry}{lv:Int}(hv:zdp l lv=true):∀ k,k ≤ l.length → (zej l lv k).length ≤ 140*k
 | 0,_=>by simp [zej]
 | k+1,hk=>by
  have h1:=zj7 hv k (by omega)
  have h2:=zsp (zd7 l lv k) l[k] lv
  have h3:=zrm hv _ (List.getElem_mem (show k<l.length by omega))
  rw [zei l lv (by omega),List.length_append]
  omega
theorem Wrote.other {hp h h':zaa}{a b:Nat}{F G GA GA':List Nat}{s sA:Str}(w:Wrote hp h b F G s) (v:Wrote h h' a GA GA' sA) (h1:∀ x∈GA,hp.length ≤ x) (h2:∀ x∈G,x ∉ GA):Wrote hp h' b F G s :=
 ⟨w.1.stays v.2.1 h2,w.2.1.trans v.2.1 (fun x hx=>.inr (h1 x hx)),w.2.2⟩
theorem Wrote.apart {h h':zaa}{b:Nat}{F F' GA:List Nat}{s:Str}(w:Wrote h h' b F F' s) (hd:∀ x∈GA,x ∉ F) (hl:∀ x∈GA,x<h.length):∀ x∈GA,x ∉ F':=fun x hx hf=>by
 rcases w.2.2 x hf with q | q
 ·exact hd x hx q
 ·have:=hl x hx;omega
def zeroE:Entry:=⟨[],[],0,0,0,0,Dg.zero⟩
def zfi (tree lv:Int) (top:Bool) (l:List Entry) (sz:Nat) (c:Bool):List AV:=[i64 tree,i64 lv,.bool top,.lst sz (l.map Entry.av) c]
section
variable {n:Nat}{hp:zaa}{b:Nat}{bs:Str}{F:List Nat}{K X:AV → zaa → Prop}
theorem z4s (hn:5 ≤ n) (w:BW hp b bs F) (tree lv:Int) (top:Bool) (h0:0 ≤ tree) (l:List Entry) (sz:Nat) (hz:l≠[] → sz=22) (c:Bool) (hv:zdp l lv=true) (hl:l.length ≤ 1000) (hbs:bs.length ≤ 1000) :
  ∃ hp' F',C n 278 [.agg (zfi tree lv top l sz c),.ptr b 0 0] hp=some (.ret (.tup []),hp') ∧ Wrote hp hp' b F F' (bs++zkv tree lv top l bs.length):=by
 obtain ⟨m,rfl⟩:=pre1 n
 have:=zcc (n:=m) (c:=cfg0) (args:=[.agg (zfi tree lv top l sz c),.ptr b 0 0]) (h:=hp) (R:=fun v hp'=>v=.tup [] ∧ ∃ F',Wrote hp hp' b F F' (bs++zkv tree lv top l bs.length)) F278 rfl rfl ?_
 ·obtain ⟨v,hp',e,rfl,F',hW⟩:=this
  exact ⟨hp',F',e,hW⟩
 obtain ⟨⟨lv0,lv20⟩,hne,_,_⟩:=valid_iff.1 hv
 have hnn:=zrm hv
 have hpre:=zlc hv
 obtain ⟨w1,e1,ne1⟩:=w.app (.cells 0 (some 296) (zfi tree lv top l sz c) 0)
 conv=>whnf
 refine ldI e1 ?_
 conv=>whnf
 refine ldI e1 ?_
 conv=>whnf
 refine clI (zv3 (n:=m) (by omega) l (by omega) (fun e h=>by have:=hnn e h;exact ⟨by omega,by omega⟩) lv (zk5 hv) sz hz c) ?_
 conv=>whnf
 refine ldI e1 ?_
 conv=>whnf
 refine numC (n:=m) (hp:=hp++[.cells 0 (some 296) (zfi tree lv top l sz c) 0]) (by omega) w1 tree h0 1 (by omega) (by omega) fun h2 F2 w2=>?_
 have e2:=(w2.keep e1 ne1).1
 have ne2:=(w2.keep e1 ne1).2
 conv=>whnf
 refine ldI e2 ?_
 conv=>whnf
 refine numC (n:=m) (hp:=h2) (by omega) w2.1 lv (by omega) 1 (by omega) (by simp only [List.length_append,zal];omega) fun h3 F3 w3=>?_
 have e3:=(w3.keep e2 ne2).1
 have ne3:=(w3.keep e2 ne2).2
 have rest:∀ (k:Int) (s':LS),k=(if top then 1 else 0) → LS.sub ⟨[(1,.ptr b 0 0),(2,.ptr hp.length 0 0),(4,.str (shared l lv)),(5,i64 k)],h3,[]⟩ s' →
   OkR Tryz.prog (C m) cfg0.inl KK 86 7 (ze3 c278) s' (RetQ Tryz.prog [] fun v hp'=>v=.tup [] ∧ ∃ F',Wrote hp hp' b F F' (bs++zkv tree lv top l bs.length)):=by
  intro k s' hk hs'
  have hk01:0 ≤ k ∧ k ≤ 1:=by subst hk;split<;>omega
  refine cutI (by decide) rfl hs' ?_
  conv=>whnf
  refine numC (n:=m) (hp:=h3) (by omega) w3.1 k (by omega) 1 (by omega) (by simp only [List.length_append,zal];omega) fun h4 F4 w4=>?_
  have e4:=(w4.keep e3 ne3).1
  have ne4:=(w4.keep e3 ne3).2
  conv=>whnf
  refine numC (n:=m) (hp:=h4) (by omega) w4.1 ((shared l lv).length:Int) (by omega) 1 (by omega) (by simp only [List.length_append,zal];omega) fun h5 F5 w5=>?_
  have e5:=(w5.keep e4 ne4).1
  have ne5:=(w5.keep e4 ne4).2
  conv=>whnf
  refine ldI e5 ?_
  conv=>whnf
  have el:((l.map Entry.av).length:Int)=(l.length:Int):=by rw [List.length_map]
  rw [el]
  refine numC (n:=m) (hp:=h5) (by omega) w5.1 (l.length:Int) (by omega) 2 (by omega) (by simp only [List.length_append,zal];omega) fun h6 F6 w6=>?_
  have e6:=(w6.keep e5 ne5).1
  have ne6:=(w6.keep e5 ne5).2
  conv=>whnf
  refine strC (n:=m) (hp:=h6) (by omega) w6.1 (shared l lv) (by simp only [List.length_append,zal];omega) fun h7 F7 w7=>?_
  have e7:=(w7.keep e6 ne6).1
  have ne7:=(w7.keep e6 ne6).2
  have W7:=((w2.trans (w3.trans (w4.trans (w5.trans (w6.trans w7))))).of_app)
  obtain ⟨w8,a8,na8⟩:=w7.1.app (.cells 0 (some 248) [.nilp,.lst 0 [] true] 0)
  have e8:=za8 (x:=.cells 0 (some 248) [.nilp,.lst 0 [] true] 0) e7
  have hA:h7.length ∉ F7:=na8
  have hlen:hp.length ≤ h7.length:=W7.2.1.1
  have hlen8:(bs++num tree.toNat 1++num lv.toNat 1++num k.toNat 1++num ((shared l lv).length:Int).toNat 1++num (l.length:Int).toNat 2++shared l lv).length=bs.length+6+(shared l lv).length:=by
   simp only [List.length_append,zal]
  conv=>whnf
  refine ldI e8 ?_
  conv=>whnf
  rw [el]
  refine zI (z:=2*(l.length:Int)) (zae (by omega) (by omega)) ?_
  conv=>whnf
  refine clI (zl7 (n:=m) (by omega) w8) ?_
  conv=>whnf
  refine ⟨?_,?_⟩
  ·conv=>whnf
   exact ldI e8 rfl
  conv=>whnf
  refine zI (z:=((bs.length+6+(shared l lv).length+2*l.length:Nat):Int)) (by rw [hlen8,zae (by omega) (by omega)];omega) ?_
  conv=>whnf
  refine ldI e8 ?_
  conv=>whnf
  refine za1 (by decide) rfl (α:=Nat × List Nat × List Nat × zaa) (fun x=>⟨[(1,.ptr b 0 0),(2,.ptr hp.length 0 0),(4,.str (shared l lv)),(6,.ptr h7.length 0 0),(7,i64 (bs.length+6+(shared l lv).length+2*l.length:Nat)),(53,.lst sz (l.map Entry.av) c),(54,i64 l.length),(55,i64 x.1)],x.2.2.2,[]⟩)
   (fun x=>x.1 ≤ l.length ∧ Wrote hp x.2.2.2 b F x.2.1 (bs++(num tree.toNat 1++(num lv.toNat 1++(num k.toNat 1++(num (shared l lv).length 1++(num l.length 2++(shared l lv++zok l lv (bs.length+6+(shared l lv).length+2*l.length) x.1))))))) ∧ BW x.2.2.2 h7.length (zej l lv x.1) x.2.2.1 ∧
    (∀ y∈x.2.2.1,hp.length<y ∧ y ∉ x.2.1) ∧ x.2.2.2[hp.length]?=some (.cells 0 (some 296) (zfi tree lv top l sz c) 0) ∧ hp.length ∉ x.2.1) (fun x=>l.length-x.1) (0,F7,[h7.length],h7++[.cells 0 (some 248) [.nilp,.lst 0 [] true] 0]) ⟨⟨rfl,rfl,rfl,rfl,rfl,rfl,lenI _ _,rfl⟩,rfl,rfl⟩ ?_ (by show l.length-0<KK;simp only [KK];omega) ?_
  ·refine ⟨Nat.zero_le _,?_,⟨_,_,_,a8,.inl rfl,.inr rfl,.inl ⟨rfl,rfl,rfl⟩⟩,?_,e8,ne7⟩
   ·have W8:Wrote hp (h7++[.cells 0 (some 248) [.nilp,.lst 0 [] true] 0]) b F F7 _:=⟨w8,W7.2.1.trans ((Keep.app h7 _ []).mono (by simp)) (fun x hx=>.inl hx),W7.2.2⟩
    simpa [zok,List.append_assoc] using W8
   ·intro y hy
    simp at hy
    subst hy
    exact ⟨zab e7,hA⟩
  rintro ⟨j,G,GA,h⟩ ⟨g1,g2,g3,g4,g5,g6⟩
  simp only at g1 g2 g3 g4 g5 g6
  conv=>whnf
  refine brd (fun a=>?_) (fun a=>?_)
  ·have hj:j<l.length:=by simp only at a;omega
   have hk':=hnn _ (List.getElem_mem hj)
   have hE1:=zj7 hv j (by omega)
   have hO:=zfg l lv (bs.length+6+(shared l lv).length+2*l.length) j
   obtain ⟨u0,x0,nx0⟩:=g2.1.app (.cells 0 (some 147) l[j].cells 0)
   have v0:=g3.stays (Keep.app h (.cells 0 (some 147) l[j].cells 0) []) (by simp)
   have nxA:h.length ∉ GA:=fun q=>by have:=g3.lt _ q;omega
   have y0:=za8 (x:=.cells 0 (some 147) l[j].cells 0) g5
   have es:(h++[AB.cells 0 (some 147) zeroE.cells 0]).set h.length (.cells 0 (some 147) l[j].cells 0)=h++[.cells 0 (some 147) l[j].cells 0]:=by simp
   have u1:=es ▸ u0
   have x1:=es ▸ x0
   have v1:=es ▸ v0
   have y1:=es ▸ y0
   conv=>whnf
   refine ixL zbf hj hz ?_
   conv=>whnf
   refine stJ (zad _ _) ?_
   conv=>whnf
   refine clI (zl7 (n:=m) (hp:=(h++[AB.cells 0 (some 147) zeroE.cells 0]).set h.length (.cells 0 (some 147) l[j].cells 0)) (by omega) v1) ?_
   conv=>whnf
   refine zI (z:=(((bs.length+6+(shared l lv).length+2*l.length)+(zej l lv j).length:Nat):Int)) (by rw [zae (by omega) (by omega)];omega) ?_
   conv=>whnf
   refine numC (n:=m) (hp:=(h++[AB.cells 0 (some 147) zeroE.cells 0]).set h.length (.cells 0 (some 147) l[j].cells 0)) (by omega) u1 _ (by omega) 2 (by omega) (by simp only [List.length_append,zal,hO];omega) fun h9 G9 w9=>?_
   have x9:=(w9.keep x1 nx0).1
   have y9:=(w9.keep y1 g6).1
   have ny9:=(w9.keep y1 g6).2
   have v9:=v1.stays w9.2.1 fun x hx=>(g4 x hx).2
   have w9':Wrote h h9 b G G9 _:=Wrote.of_app (es ▸ w9)
   have W9:=g2.trans w9'
   have ap:∀ x∈GA,x ∉ G9:=w9'.apart (fun x hx=>(g4 x hx).2) g3.lt
   have call:∀ {Q:Ex → LS → Prop}(cc:Nat) (s':LS),cc=zd7 l lv j → LS.sub ⟨[(1,.ptr b 0 0),(2,.ptr hp.length 0 0),(4,.str (shared l lv)),(6,.ptr h7.length 0 0),(7,i64 ((bs.length+6+(shared l lv).length+2*l.length):Nat)),(9,.ptr h.length 0 0),(10,i64 cc),(53,.lst sz (l.map Entry.av) c),(54,i64 l.length),(55,i64 j)],h9,[]⟩ s' →
     (∀ h10 GA10,Wrote h9 h10 h7.length GA GA10 (zej l lv j++entB (zd7 l lv j) l[j] lv) → ∀ L,subL [(1,.ptr b 0 0),(2,.ptr hp.length 0 0),(4,.str (shared l lv)),(6,.ptr h7.length 0 0),(7,i64 ((bs.length+6+(shared l lv).length+2*l.length):Nat)),(53,.lst sz (l.map Entry.av) c),(54,i64 l.length),(55,i64 j)] L → Q .norm ⟨L,h10,[]⟩) →
     OkR Tryz.prog (C m) cfg0.inl KK 86 7 (ze3 (c278.lp 0)) s' Q:=by
    intro Q cc s' hcc hs' hQ
    subst hcc
    obtain ⟨h10,GA10,e10,w10⟩:=z16 (n:=m) (by omega) v9 (zfi tree lv top l sz c) lv rfl rfl l[j] hk'.1 (zd7 l lv j) (zss hj) (by omega)
    refine cutI (by decide) rfl hs' ?_
    conv=>whnf
    refine ldI y9 ?_
    conv=>whnf
    refine ldI x9 ?_
    conv=>whnf
    refine clI e10 ?_
    exact hQ h10 GA10 w10 _ ⟨rfl,rfl,rfl,rfl,rfl,rfl,rfl,rfl⟩
   have next:∀ (L:LT) (h10:zaa) (GA10:List Nat),Wrote h9 h10 h7.length GA GA10 (zej l lv j++entB (zd7 l lv j) l[j] lv) →
     (Wrote hp h10 b F G9 (bs++(num tree.toNat 1++(num lv.toNat 1++(num k.toNat 1++(num (shared l lv).length 1++(num l.length 2++(shared l lv++zok l lv (bs.length+6+(shared l lv).length+2*l.length) (j+1)))))))) ∧ BW h10 h7.length (zej l lv (j+1)) GA10 ∧
     (∀ y∈GA10,hp.length<y ∧ y ∉ G9) ∧ h10[hp.length]?=some (.cells 0 (some 296) (zfi tree lv top l sz c) 0) ∧ hp.length ∉ G9):=by
    intro L h10 GA10 w10
    refine ⟨?_,?_,?_,?_,ny9⟩
    ·have:=W9.other w10 (fun x hx=>by have:=(g4 x hx).1;omega) (fun x hx q=>ap x q hx)
     rw [zlm]
     rw [Int.toNat_natCast] at this
     simpa only [List.append_assoc] using this
    ·rw [zei l lv hj];exact w10.1
    ·intro y hy
     rcases w10.2.2 y hy with q | q
     ·exact ⟨(g4 y q).1,ap y q⟩
     ·refine ⟨?_,fun q2=>?_⟩
      ·have:=zab y9;omega
      ·have:=W9.1.lt y q2;omega
    ·exact (w10.keep y9 (fun q=>by have:=(g4 _ q).1;omega)).1
   conv=>whnf
   refine bre (fun e=>?_) (fun e=>?_)
   ·conv=>whnf
    refine ldI y9 ?_
    conv=>whnf
    refine brd (fun d=>?_) (fun d=>?_)
    ·refine call 0 _ (by unfold zd7;rw [if_pos ⟨by omega,d⟩]) ⟨⟨rfl,rfl,rfl,rfl,rfl,rfl,rfl,rfl,rfl,rfl⟩,rfl,rfl⟩ fun h10 GA10 w10 L hL=>?_
     refine cutI (by decide) rfl (t:=⟨[(1,.ptr b 0 0),(2,.ptr hp.length 0 0),(4,.str (shared l lv)),(6,.ptr h7.length 0 0),(7,i64 (bs.length+6+(shared l lv).length+2*l.length:Nat)),(53,.lst sz (l.map Entry.av) c),(54,i64 l.length),(55,i64 j)],h10,[]⟩) ⟨hL,rfl,rfl⟩ ?_
     conv=>whnf
     refine zJ j ?_
     exact nxI (j+1,G9,GA10,h10) ⟨hj,next [] h10 GA10 w10⟩ (by simp only;omega) ⟨⟨rfl,rfl,rfl,rfl,rfl,rfl,rfl,rfl⟩,rfl,rfl⟩
    ·refine call (shared l lv).length _ (by unfold zd7;rw [if_neg (fun q=>d q.2)]) ⟨⟨rfl,rfl,rfl,rfl,rfl,rfl,rfl,rfl,rfl,rfl⟩,rfl,rfl⟩ fun h10 GA10 w10 L hL=>?_
     refine cutI (by decide) rfl (t:=⟨[(1,.ptr b 0 0),(2,.ptr hp.length 0 0),(4,.str (shared l lv)),(6,.ptr h7.length 0 0),(7,i64 (bs.length+6+(shared l lv).length+2*l.length:Nat)),(53,.lst sz (l.map Entry.av) c),(54,i64 l.length),(55,i64 j)],h10,[]⟩) ⟨hL,rfl,rfl⟩ ?_
     conv=>whnf
     refine zJ j ?_
     exact nxI (j+1,G9,GA10,h10) ⟨hj,next [] h10 GA10 w10⟩ (by simp only;omega) ⟨⟨rfl,rfl,rfl,rfl,rfl,rfl,rfl,rfl⟩,rfl,rfl⟩
   ·conv=>whnf
    refine call (shared l lv).length _ (by unfold zd7;rw [if_neg (fun q=>e (by omega))]) ⟨⟨rfl,rfl,rfl,rfl,rfl,rfl,rfl,rfl,rfl,rfl⟩,rfl,rfl⟩ fun h10 GA10 w10 L hL=>?_
    refine cutI (by decide) rfl (t:=⟨[(1,.ptr b 0 0),(2,.ptr hp.length 0 0),(4,.str (shared l lv)),(6,.ptr h7.length 0 0),(7,i64 (bs.length+6+(shared l lv).length+2*l.length:Nat)),(53,.lst sz (l.map Entry.av) c),(54,i64 l.length),(55,i64 j)],h10,[]⟩) ⟨hL,rfl,rfl⟩ ?_
    conv=>whnf
    refine zJ j ?_
    exact nxI (j+1,G9,GA10,h10) ⟨hj,next [] h10 GA10 w10⟩ (by simp only;omega) ⟨⟨rfl,rfl,rfl,rfl,rfl,rfl,rfl,rfl⟩,rfl,rfl⟩
  ·have hj:j=l.length:=by simp only at a;omega
   subst hj
   have hne2:zej l lv l.length≠[]:=by
    obtain ⟨q,hq⟩ : ∃ q,l.length=q+1:=⟨l.length-1,by cases l with | nil=>exact (hne rfl).elim | cons=>simp⟩
    rw [hq,zei l lv (by omega)]
    intro e
    have:=congrArg List.length e
    have h2:=(zsp (zd7 l lv q) (l[q]'(by omega)) lv).2
    rw [List.length_append] at this
    simp only [List.length_nil] at this
    omega
   have hE1:=zj7 hv l.length (by omega)
   have hO:=zfg l lv (bs.length+6+(shared l lv).length+2*l.length) l.length
   obtain ⟨h10,e10,w10⟩:=zfx (n:=m) (by omega) g3 hne2 (by omega)
   have W10:=g2.other w10 (fun x hx=>by have:=(g4 x hx).1;omega) (fun x hx q=>(g4 x q).2 hx)
   conv=>whnf
   refine cutI (by decide) rfl (t:=⟨[(1,.ptr b 0 0),(6,.ptr h7.length 0 0)],h,[]⟩) ⟨⟨rfl,rfl⟩,rfl,rfl⟩ ?_
   conv=>whnf
   refine clI e10 ?_
   conv=>whnf
   refine strC (n:=m) (hp:=h10) (by omega) W10.1 (zej l lv l.length) (by simp only [List.length_append,zal,hO];omega) fun h11 F11 w11=>?_
   conv=>whnf
   refine ⟨rfl,[],rfl,rfl,F11,?_⟩
   have:=W10.trans w11
   have ht:k.toNat=if top then 1 else 0:=by subst hk;cases top<;>rfl
   unfold zkv
   rw [← ht]
   simpa [List.append_assoc] using this
 conv=>whnf
 refine ldI e3 ?_
 refine br (fun a=>?_) (fun a=>?_)
 ·subst a
  conv=>whnf
  exact rest 1 _ rfl ⟨⟨rfl,rfl,rfl,rfl⟩,rfl,rfl⟩
 ·subst a
  conv=>whnf
  exact rest 0 _ rfl ⟨⟨rfl,rfl,rfl,rfl⟩,rfl,rfl⟩
end
section
variable {n:Nat}{h:zaa}
theorem zng (hn:7 ≤ n) (p:Page) (ok:p.Ok):C n 143 [p.av] h=some (.ret (i64 (if p.check then 0 else 2)),h):=by
 obtain ⟨m,rfl⟩:=pre1 n
 obtain ⟨o1,o2,o3,o4,o5,o6,o7⟩:=ok
 refine zak F143 rfl rfl rfl (by simp [zam,zb5]) ?_
 repeat' (conv=>whnf);first
  | refine clI (zds (by omega) _) ?_
  | refine clI (zco (by omega) _ _ _) ?_
  | refine clI (z5m (by omega) p.entries o3 o6 p.level p.esh.sz o1 p.esh.c) ?_
  | refine clI (z02 (by omega) p) ?_
  | refine clI (zxf (by omega) _) ?_
  | refine clI (z1w (by omega) p.freed o4 o7 p.fsh.sz o2 p.fsh.c) ?_
  | refine clI (zxe (by omega) p.freed o4 (zxz (by assumption) o7) p.fsh.sz o2 p.fsh.c) ?_
  | refine eqI (zyc _ _) ?_
  | refine retP rfl (zb2 ?_)
  | refine brd (fun _=>?_) (fun _=>?_)
  | refine bre (fun _=>?_) (fun _=>?_)
  | refine brq (fun _=>?_) (fun _=>?_)
  | refine brn (fun _=>?_) (fun _=>?_)
  | refine br (fun _=>?_) (fun _=>?_)
  | refine ldI (by rfl) ?_
  | refine ldI (zaf _ _ _) ?_
  | refine ldI (zad _ _) ?_
  | refine stJ (by rfl) ?_
  | refine stJ (zad _ _) ?_
  | refine cutS (by decide) rfl ?_
 all_goals clear o1 o2 o3 o4 o5 o6 o7
 all_goals simp_all [Page.check]
def Page.body (p:Page):AV:=if p.kind=3 then .ifc 292 (.agg [i64 p.next,.str p.data]) else if p.kind=4 then .ifc 294 (.agg [i64 p.next,.lst p.fsh.sz (p.freed.map Freed.av) p.fsh.c]) else .ifc 296 (.agg (zfi p.tree p.level p.top p.entries p.esh.sz p.esh.c))
theorem z5z (hn:1 ≤ n) (p:Page):C n 175 [p.av] h=some (.ret p.body,h):=by
 obtain ⟨m,rfl⟩:=pre1 n
 have fe:∀ n,ze4 (n+3) (.lst p.esh.sz (p.entries.map Entry.av) p.esh.c):=fun n=>zee fun x hx=>by
  obtain ⟨e,_,rfl⟩:=List.mem_map.1 hx
  exact zb6 fun y hy=>by
   simp [Entry.cells,Dg.cells] at hy
   rcases hy with rfl | rfl | rfl | rfl | rfl | rfl | hy
   ·exact zhf
   ·exact zhf
   ·exact zau
   ·exact zau
   ·exact zau
   ·exact zau
   ·rcases hy with rfl | rfl | rfl | rfl | rfl | rfl | rfl | rfl | rfl | rfl | rfl | rfl | rfl | rfl | rfl | rfl<;>exact zau
 have ff:∀ n,ze4 (n+5) (.lst p.fsh.sz (p.freed.map Freed.av) p.fsh.c):=fun n=>zee fun x hx=>by
  obtain ⟨f,_,rfl⟩:=List.mem_map.1 hx
  exact zb6 fun y hy=>by
   simp [Freed.cells] at hy
   rcases hy with rfl | rfl
   ·exact zau
   ·exact zee fun z hz=>by
     obtain ⟨k,_,rfl⟩:=List.mem_map.1 hz
     exact zau
 refine zak F175 rfl rfl rfl (by simp [zam,zb5]) ?_
 repeat' (conv=>whnf);first
  | refine retP rfl ?_
  | refine brd (fun _=>?_) (fun _=>?_)
  | refine bre (fun _=>?_) (fun _=>?_)
  | refine brq (fun _=>?_) (fun _=>?_)
  | refine brn (fun _=>?_) (fun _=>?_)
  | refine br (fun _=>?_) (fun _=>?_)
  | refine ldI (by rfl) ?_
  | refine ldI (zaf _ _ _) ?_
  | refine ldI (zad _ _) ?_
  | refine stJ (by rfl) ?_
  | refine stJ (zad _ _) ?_
  | refine cutS (by decide) rfl ?_
 ·show frz _ 64 (.ifc 292 (.agg [i64 p.next,.str p.data]))=some p.body
  refine (zjw (zb6 (n:=62) fun y hy=>?_) _).trans (congrArg some ?_)
  ·simp at hy
   rcases hy with rfl | rfl
   ·exact zau
   ·exact zhf
  ·simp_all [Page.body]
 ·show frz _ 64 (.ifc 294 (.agg [i64 p.next,.lst p.fsh.sz (p.freed.map Freed.av) p.fsh.c]))=some p.body
  refine (zjw (zb6 (n:=62) fun y hy=>?_) _).trans (congrArg some ?_)
  ·simp at hy
   rcases hy with rfl | rfl
   ·exact zau
   ·exact ff 57
  ·simp_all [Page.body]
 ·show frz _ 64 (.ifc 296 (.agg (zfi p.tree p.level p.top p.entries p.esh.sz p.esh.c)))=some p.body
  refine (zjw (zb6 (n:=62) fun y hy=>?_) _).trans (congrArg some ?_)
  ·simp [zfi] at hy
   rcases hy with rfl | rfl | rfl | rfl
   ·exact zau
   ·exact zau
   ·exact zlt
   ·exact fe 59
  ·simp_all [Page.body]
theorem zqh (c:UInt32) (k:Nat) (hk:k ≤ 3):IntKind.u8.wrap (((c.toNat:Int)).fdiv (2 ^ (min ((8*k:Nat):Int).toNat IntKind.u32.bits)))=((UInt8.ofNat (c.toNat / 256 ^ k)).toNat:Int):=by
 have h1:min ((8*k:Nat):Int).toNat IntKind.u32.bits=8*k:=by show min ((8*k:Nat):Int).toNat 32=8*k;omega
 rw [h1,Int.fdiv_eq_ediv_of_nonneg _ (by exact Int.pow_nonneg (by decide))]
 have h2:((c.toNat:Int)) / (2 ^ (8*k):Int)=((c.toNat / 256 ^ k:Nat):Int):=by
  rw [show (256:Nat)=2 ^ 8 by rfl,← Nat.pow_mul]
  norm_cast
 rw [h2]
 show (if (IntKind.u8.signed&&decide (((c.toNat / 256 ^ k:Nat):Int) % (2 ^ 8:Int)≥(2 ^ (8-1):Int)))=true then ((c.toNat / 256 ^ k:Nat):Int) % (2 ^ 8:Int)-2 ^ 8 else ((c.toNat / 256 ^ k:Nat):Int) % (2 ^ 8:Int))=_
 rw [if_neg (by simp [IntKind.signed]),UInt8.toNat_ofNat']
 omega
def crcB (s:Str):Str:=[UInt8.ofNat ((crc s).toNat / 256 ^ 0),UInt8.ofNat ((crc s).toNat / 256 ^ 1),UInt8.ofNat ((crc s).toNat / 256 ^ 2),UInt8.ofNat ((crc s).toNat / 256 ^ 3)]
theorem zna (hn:2 ≤ n) (s:Str) (hs:s.length<1099511627776):C n 179 [.str s] h=some (.ret (.str (s++crcB s)),h):=by
 obtain ⟨m,rfl⟩:=pre1 n
 refine zak F179 rfl rfl rfl rfl ?_
 conv=>whnf
 refine clI (zyl (by omega) s hs) ?_
 conv=>whnf
 refine zI (z:=((UInt8.ofNat ((crc s).toNat / 256 ^ 0)).toNat:Int)) (by rw [z23,Nat.pow_zero,Nat.div_one];rfl) ?_
 conv=>whnf
 refine ⟨by decide,_,rfl,?_⟩
 conv=>whnf
 refine zI (zqh (crc s) 1 (by omega)) ?_
 conv=>whnf
 refine ⟨by decide,_,rfl,?_⟩
 conv=>whnf
 refine zI (zqh (crc s) 2 (by omega)) ?_
 conv=>whnf
 refine ⟨by decide,_,rfl,?_⟩
 conv=>whnf
 refine zI (zqh (crc s) 3 (by omega)) ?_
 conv=>whnf
 refine ⟨rfl,?_⟩
 conv=>whnf
 refine ⟨_,crcB s,zj2 _ (crcB s) true,zb3 _,?_⟩
 conv=>whnf
 refine ⟨by simp [crcB];omega,?_⟩
 conv=>whnf
 exact retP rfl (zh3 rfl)
end
def c177:RC :=
 (.seq (.ops [(oP 4 (.mv (.c (.str []))))])
 (.seq (.seq (.ops [(mV 11 1)])
 (.block 0
 (.seq (.ops [(oJ 13 .eql 11 0),(mV 12 13)])
 (.cond (.t 12)
 (.seq (.ops [(oP 4 (.mv (.c (.str []))))])
 .ret)
 (.seq (.ops [(oJ 15 .eql 11 1),(mV 14 15)])
 (.cond (.t 14)
 (.seq (.ops [(mV 16 0),(mV 4 16)])
 .ret)
 .skip))))))
 (.seq (.seq (.ops [(mV 17 1),(oJ 18 .lss 17 0)])
 (.cond (.t 18)
 (.ops [(oP 19 (.mkIfc 9 (.c (.str [115,116,114,105,110,103,115,58,32,110,101,103,97,116,105,118,101,32,82,101,112,101,97,116,32,99,111,117,110,116])))),
 ⟨none,none,.pan (.t 19)⟩])
 .skip))
 (.seq (.ops [(mV 21 0),(oP 22 (.lenS (.t 21))),(oP 23 (.toInt .u64 (.t 22))),(mV 24 1),(oP 25 (.toInt .u64 (.t 24))),(oW 26 215 23 25),(mV 20 26),(oQ 27 20 0),(oQ 28 20 1),(mV 5 27),(mV 6 28)])
 (.seq (.seq (.ops [(mV 29 5),(oP 30 (.bin .gtr (.t 29) (.c (.int .u64 0)))),(mV 31 30),(oE 32 31 false 6),(oG 33 31 false (.bin .gtr (.t 32) (.c (.int .u64 9223372036854775807)))),(oM 34 31 33)])
 (.cond (.t 34)
 (.ops [(oP 35 (.mkIfc 9 (.c (.str [115,116,114,105,110,103,115,58,32,82,101,112,101,97,116,32,111,117,116,112,117,116,32,108,101,110,103,116,104,32,111,118,101,114,102,108,111,119])))),
 ⟨none,none,.pan (.t 35)⟩])
 .skip))
 (.seq (.ops [(mV 36 6),(oP 37 (.toInt .i64 (.t 36))),(mV 7 37)])
 (.seq (.seq (.ops [(mV 38 0),(oP 39 (.lenS (.t 38))),(oJ 40 .eql 39 0)])
 (.cond (.t 40)
 (.seq (.ops [(oP 4 (.mv (.c (.str []))))])
 .ret)
 .skip))
 (.seq (.seq (.ops [(mV 41 0),(oP 42 (.indexS (.t 41) (.c (.int .i64 0))))])
 (.block 1
 (.seq (.seq (.ops [(oP 44 (.bin .eql (.t 42) (.c (.int .u8 32)))),(mV 43 44)])
 (.cond (.t 43)
 .skip
 (.seq (.ops [(oP 45 (.bin .eql (.t 42) (.c (.int .u8 45)))),(mV 43 45)])
 (.cond (.t 43)
 .skip
 (.seq (.ops [(oP 46 (.bin .eql (.t 42) (.c (.int .u8 48)))),(mV 43 46)])
 (.cond (.t 43)
 .skip
 (.seq (.ops [(oP 47 (.bin .eql (.t 42) (.c (.int .u8 61)))),(mV 43 47)])
 (.cond (.t 43)
 .skip
 (.ops [(oP 48 (.bin .eql (.t 42) (.c (.int .u8 9)))),(mV 43 48)])))))))))
 (.cond (.t 43)
 (.block 2
 (.seq (.ops [(mV 50 7),(oJ 51 .leq 50 128),(mV 52 51),(oE 53 52 true 0),(oG 54 52 true (.callF 216 [(.c (.str [32,32,32,32,32,32,32,32,32,32,32,32,32,32,32,32,32,32,32,32,32,32,32,32,32,32,32,32,32,32,32,32,32,32,32,32,32,32,32,32,32,32,32,32,32,32,32,32,32,32,32,32,32,32,32,32,32,32,32,32,32,32,32,32,32,32,32,32,32,32,32,32,32,32,32,32,32,32,32,32,32,32,32,32,32,32,32,32,32,32,32,32,32,32,32,32,32,32,32,32,32,32,32,32,32,32,32,32,32,32,32,32,32,32,32,32,32,32,32,32,32,32,32,32,32,32,32,32])),(.t 53)])),(oN 55 52 54),(mV 49 55)])
 (.cond (.t 49)
 (.seq (.ops [(mV 56 7),(oP 57 (.sliceS (.c (.str [32,32,32,32,32,32,32,32,32,32,32,32,32,32,32,32,32,32,32,32,32,32,32,32,32,32,32,32,32,32,32,32,32,32,32,32,32,32,32,32,32,32,32,32,32,32,32,32,32,32,32,32,32,32,32,32,32,32,32,32,32,32,32,32,32,32,32,32,32,32,32,32,32,32,32,32,32,32,32,32,32,32,32,32,32,32,32,32,32,32,32,32,32,32,32,32,32,32,32,32,32,32,32,32,32,32,32,32,32,32,32,32,32,32,32,32,32,32,32,32,32,32,32,32,32,32,32,32])) none (some (.t 56)))),(mV 4 57)])
 .ret)
 (.seq (.ops [(mV 59 7),(oJ 60 .leq 59 128),(mV 61 60),(oE 62 61 true 0),(oG 63 61 true (.callF 216 [(.c (.str [45,45,45,45,45,45,45,45,45,45,45,45,45,45,45,45,45,45,45,45,45,45,45,45,45,45,45,45,45,45,45,45,45,45,45,45,45,45,45,45,45,45,45,45,45,45,45,45,45,45,45,45,45,45,45,45,45,45,45,45,45,45,45,45,45,45,45,45,45,45,45,45,45,45,45,45,45,45,45,45,45,45,45,45,45,45,45,45,45,45,45,45,45,45,45,45,45,45,45,45,45,45,45,45,45,45,45,45,45,45,45,45,45,45,45,45,45,45,45,45,45,45,45,45,45,45,45,45])),(.t 62)])),(oN 64 61 63),(mV 58 64)])
 (.cond (.t 58)
 (.seq (.ops [(mV 65 7),(oP 66 (.sliceS (.c (.str [45,45,45,45,45,45,45,45,45,45,45,45,45,45,45,45,45,45,45,45,45,45,45,45,45,45,45,45,45,45,45,45,45,45,45,45,45,45,45,45,45,45,45,45,45,45,45,45,45,45,45,45,45,45,45,45,45,45,45,45,45,45,45,45,45,45,45,45,45,45,45,45,45,45,45,45,45,45,45,45,45,45,45,45,45,45,45,45,45,45,45,45,45,45,45,45,45,45,45,45,45,45,45,45,45,45,45,45,45,45,45,45,45,45,45,45,45,45,45,45,45,45,45,45,45,45,45,45])) none (some (.t 65)))),(mV 4 66)])
 .ret)
 (.seq (.ops [(mV 68 7),(oJ 69 .leq 68 64),(mV 70 69),(oE 71 70 true 0),(oG 72 70 true (.callF 216 [(.c (.str [48,48,48,48,48,48,48,48,48,48,48,48,48,48,48,48,48,48,48,48,48,48,48,48,48,48,48,48,48,48,48,48,48,48,48,48,48,48,48,48,48,48,48,48,48,48,48,48,48,48,48,48,48,48,48,48,48,48,48,48,48,48,48,48])),(.t 71)])),(oN 73 70 72),(mV 67 73)])
 (.cond (.t 67)
 (.seq (.ops [(mV 74 7),(oP 75 (.sliceS (.c (.str [48,48,48,48,48,48,48,48,48,48,48,48,48,48,48,48,48,48,48,48,48,48,48,48,48,48,48,48,48,48,48,48,48,48,48,48,48,48,48,48,48,48,48,48,48,48,48,48,48,48,48,48,48,48,48,48,48,48,48,48,48,48,48,48])) none (some (.t 74)))),(mV 4 75)])
 .ret)
 (.seq (.ops [(mV 77 7),(oJ 78 .leq 77 128),(mV 79 78),(oE 80 79 true 0),(oG 81 79 true (.callF 216 [(.c (.str [61,61,61,61,61,61,61,61,61,61,61,61,61,61,61,61,61,61,61,61,61,61,61,61,61,61,61,61,61,61,61,61,61,61,61,61,61,61,61,61,61,61,61,61,61,61,61,61,61,61,61,61,61,61,61,61,61,61,61,61,61,61,61,61,61,61,61,61,61,61,61,61,61,61,61,61,61,61,61,61,61,61,61,61,61,61,61,61,61,61,61,61,61,61,61,61,61,61,61,61,61,61,61,61,61,61,61,61,61,61,61,61,61,61,61,61,61,61,61,61,61,61,61,61,61,61,61,61])),(.t 80)])),(oN 82 79 81),(mV 76 82)])
 (.cond (.t 76)
 (.seq (.ops [(mV 83 7),(oP 84 (.sliceS (.c (.str [61,61,61,61,61,61,61,61,61,61,61,61,61,61,61,61,61,61,61,61,61,61,61,61,61,61,61,61,61,61,61,61,61,61,61,61,61,61,61,61,61,61,61,61,61,61,61,61,61,61,61,61,61,61,61,61,61,61,61,61,61,61,61,61,61,61,61,61,61,61,61,61,61,61,61,61,61,61,61,61,61,61,61,61,61,61,61,61,61,61,61,61,61,61,61,61,61,61,61,61,61,61,61,61,61,61,61,61,61,61,61,61,61,61,61,61,61,61,61,61,61,61,61,61,61,61,61,61])) none (some (.t 83)))),(mV 4 84)])
 .ret)
 (.seq (.ops [(mV 86 7),(oJ 87 .leq 86 64),(mV 88 87),(oE 89 88 true 0),(oG 90 88 true (.callF 216 [(.c (.str [9,9,9,9,9,9,9,9,9,9,9,9,9,9,9,9,9,9,9,9,9,9,9,9,9,9,9,9,9,9,9,9,9,9,9,9,9,9,9,9,9,9,9,9,9,9,9,9,9,9,9,9,9,9,9,9,9,9,9,9,9,9,9,9])),(.t 89)])),(oN 91 88 90),(mV 85 91)])
 (.cond (.t 85)
 (.seq (.ops [(mV 92 7),(oP 93 (.sliceS (.c (.str [9,9,9,9,9,9,9,9,9,9,9,9,9,9,9,9,9,9,9,9,9,9,9,9,9,9,9,9,9,9,9,9,9,9,9,9,9,9,9,9,9,9,9,9,9,9,9,9,9,9,9,9,9,9,9,9,9,9,9,9,9,9,9,9])) none (some (.t 92)))),(mV 4 93)])
 .ret)
 .skip)))))))))))
 .skip))))
 (.seq (.ops [(mV 94 7),(mV 8 94)])
 (.seq (.seq (.ops [(mV 95 7),(oJ 96 .gtr 95 8192)])
 (.cond (.t 96)
 (.seq (.ops [(mV 97 0),(oP 98 (.lenS (.t 97))),(oP 99 (.bin .quo (.c (.int .i64 8192)) (.t 98))),(mV 100 0),(oP 101 (.lenS (.t 100))),(oI 102 .mul 99 101),(mV 8 102)])
 (.seq (.ops [(mV 103 8),(oJ 104 .eql 103 0)])
 (.cond (.t 104)
 (.ops [(mV 105 0),(oP 106 (.lenS (.t 105))),(mV 8 106)])
 .skip)))
 .skip))
 (.seq (.ops [(oP 9 (.alloc 246 [.nilp,(.lst 0 [] true)]))])
 (.seq (.ops [(mV 107 7),(oW 108 217 9 107)])
 (.seq (.ops [(mV 109 0),(oW 110 176 9 109)])
 (.seq (.block 3
 (.loop
 (.seq (.seq (.ops [(oV 111 178 9),(mV 112 7),(oI 113 .lss 111 112)])
 (.cond (.t 113)
 .skip
 (.exit 3)))
 (.block 4
 (.seq (.ops [(mV 114 7),(oV 115 178 9),(oI 116 .sub 114 115),(oV 117 178 9),(mV 118 8),(oP 119 (.mm3 false (.t 116) (.t 117) (.t 118))),(mV 10 119)])
 (.ops [(oV 120 180 9),(mV 121 10),(oP 122 (.sliceS (.t 120) none (some (.t 121)))),(oW 123 176 9 122)]))))))
 (.cut (.seq (.ops [(oV 124 180 9),(mV 4 124)])
 .ret))))))))))))))))
theorem F177:FI 177 2 125 7 [.tmp 4] c177:=mkF Tryz.f177 Tryz.func177
def c217:RC :=
 (.seq (.ops [(mV 4 0),(oV 5 214 4)])
 (.seq (.seq (.ops [(mV 6 1),(oJ 7 .lss 6 0)])
 (.cond (.t 7)
 (.ops [(oP 8 (.mkIfc 9 (.c (.str [115,116,114,105,110,103,115,46,66,117,105,108,100,101,114,46,71,114,111,119,58,32,110,101,103,97,116,105,118,101,32,99,111,117,110,116])))),
 ⟨none,none,.pan (.t 8)⟩])
 .skip))
 (.seq (.draw [((mV 9 0),0),((oR 10 9),0),((oC 11 1 10),0),((oA 12 11),1),((oP 13 (.capL (.t 12))),0),((mV 14 0),0),((oR 15 14),0),((oC 16 1 15),0),((oA 17 16),1),((oK 18 17),0),((oI 19 .sub 13 18),0),((mV 20 1),0),((oI 21 .lss 19 20),0)])
 (.cond (.t 21)
 (.ops [(mV 22 0),(mV 23 1),(oW 24 240 22 23)])
 .skip))))
theorem F217:FI 217 2 25 5 [] c217:=mkF Tryz.f217 Tryz.func217
def c240:RC :=
 (.seq (.draw [((mV 5 0),0),((oR 6 5),0),((oC 7 1 6),0),((oA 8 7),1),((oP 9 (.capL (.t 8))),0),((oP 10 (.bin .mul (.c (.int .i64 2)) (.t 9))),0),((mV 11 1),0),((oI 12 .add 10 11),0),((mV 14 0),0),((oR 15 14),0),((oC 16 1 15),0),((oA 17 16),1),((oK 18 17),0),((oP 13 (.mkNZ 5 (.t 12))),2),((oP 19 (.sliceL 1 (.t 13) none (some (.t 18)) none)),1),((mV 4 19),0)])
 (.seq (.ops [(mV 20 4),(mV 21 0),(oR 22 21),(oC 23 1 22),(oA 24 23),(oP 25 (.cpy 1 (.t 20) (.t 24)))])
 (.ops [(mV 26 0),(mV 27 4),(oR 28 26),(oC 29 1 28),(oT 1 29 27)])))
theorem F240:FI 240 2 30 5 [] c240:=mkF Tryz.f240 Tryz.func240
def c215:RC :=
 (.seq (.ops [(oP 4 (.mv (.c (.int .u64 0)))),(oP 5 (.mv (.c (.int .u64 0))))])
 (.seq (.cond (.c (.bool false))
 (.seq (.ops [(mV 11 0),(oP 12 (.toInt .u32 (.t 11))),(mV 13 1),(oP 14 (.toInt .u32 (.t 13))),(oW 15 237 12 14),(mV 10 15),(oQ 16 10 0),(oQ 17 10 1),(mV 6 16),(mV 7 17)])
 (.seq (.ops [(mV 18 6),(oP 19 (.toInt .u64 (.t 18))),(mV 20 7),(oP 21 (.toInt .u64 (.t 20))),(mV 4 19),(mV 5 21)])
 .ret))
 .skip)
 (.seq (.ops [(mV 23 0),(mV 24 1),(oW 25 238 23 24),(mV 22 25),(oQ 26 22 0),(oQ 27 22 1),(mV 8 26),(mV 9 27)])
 (.seq (.ops [(mV 28 8),(mV 29 9),(mV 4 28),(mV 5 29)])
 .ret))))
theorem F215:FI 215 2 30 5 [.tmp 4,.tmp 5] c215:=mkF Tryz.f215 Tryz.func215
def c238:RC :=
 (.seq (.ops [(oP 4 (.mv (.c (.int .u64 0)))),(oP 5 (.mv (.c (.int .u64 0))))])
 (.seq (.ops [(mV 14 0),(oP 15 (.bin .and (.t 14) (.c (.int .u64 4294967295)))),(mV 6 15)])
 (.seq (.ops [(mV 16 0),(oP 17 (.bin .shr (.t 16) (.c (.int .u64 32)))),(mV 7 17)])
 (.seq (.ops [(mV 18 1),(oP 19 (.bin .and (.t 18) (.c (.int .u64 4294967295)))),(mV 8 19)])
 (.seq (.ops [(mV 20 1),(oP 21 (.bin .shr (.t 20) (.c (.int .u64 32)))),(mV 9 21)])
 (.seq (.ops [(mV 22 6),(mV 23 8),(oI 24 .mul 22 23),(mV 10 24)])
 (.seq (.ops [(mV 25 7),(mV 26 8),(oI 27 .mul 25 26),(mV 28 10),(oP 29 (.bin .shr (.t 28) (.c (.int .u64 32)))),(oI 30 .add 27 29),(mV 11 30)])
 (.seq (.ops [(mV 31 11),(oP 32 (.bin .and (.t 31) (.c (.int .u64 4294967295)))),(mV 12 32)])
 (.seq (.ops [(mV 33 11),(oP 34 (.bin .shr (.t 33) (.c (.int .u64 32)))),(mV 13 34)])
 (.seq (.ops [(mV 35 12),(mV 36 6),(mV 37 9),(oI 38 .mul 36 37),(oI 39 .add 35 38),(mV 12 39)])
 (.seq (.ops [(mV 40 7),(mV 41 9),(oI 42 .mul 40 41),(mV 43 13),(oI 44 .add 42 43),(mV 45 12),(oP 46 (.bin .shr (.t 45) (.c (.int .u64 32)))),(oI 47 .add 44 46),(mV 4 47)])
 (.seq (.ops [(mV 48 0),(mV 49 1),(oI 50 .mul 48 49),(mV 5 50)])
 .ret))))))))))))
theorem F238:FI 238 2 51 6 [.tmp 4,.tmp 5] c238:=mkF Tryz.f238 Tryz.func238
theorem zin {k:Int}(h0:0 ≤ k) (h1:k<18446744073709551616):IntKind.u64.wrap k=k:=by
 show (if (IntKind.u64.signed&&decide (k % (2 ^ 64:Int)≥(2 ^ (64-1):Int)))=true then k % (2 ^ 64:Int)-2 ^ 64 else k % (2 ^ 64:Int))=_
 rw [if_neg (by simp [IntKind.signed])]
 omega
theorem zmx {k:Int}(h0:0 ≤ k) (h1:k<4294967296):IntKind.u64.wrap (BitVec.ofInt IntKind.u64.bits k &&& BitVec.ofInt IntKind.u64.bits 4294967295).toNat=k:=by
 obtain ⟨q,rfl⟩:=Int.eq_ofNat_of_zero_le h0
 have hq:q<4294967296:=by omega
 have e:(BitVec.ofInt IntKind.u64.bits (q:Int) &&& BitVec.ofInt IntKind.u64.bits 4294967295).toNat=q:=by
  show (BitVec.ofInt 64 (q:Int) &&& BitVec.ofInt 64 4294967295).toNat=q
  rw [BitVec.toNat_and]
  have h1:(BitVec.ofInt 64 (q:Int)).toNat=q:=by rw [BitVec.ofInt_natCast,BitVec.toNat_ofNat];omega
  have h2:(BitVec.ofInt 64 4294967295).toNat=2 ^ 32-1:=by decide
  rw [h1,h2,Nat.and_two_pow_sub_one_eq_mod];omega
 rw [e]
 exact zin (by omega) (by omega)
theorem ze6 {k:Int}(h0:0 ≤ k) (h1:k<4294967296):k.fdiv (2 ^ (min (32:Int).toNat IntKind.u64.bits))=0:=by
 have:min (32:Int).toNat IntKind.u64.bits=32:=by decide
 rw [this,Int.fdiv_eq_ediv_of_nonneg _ (by decide)]
 have:(2 ^ 32:Int)=4294967296:=by decide
 omega
section
variable {n:Nat}{h:zaa}
theorem z1b (hn:1 ≤ n) (k:Int) (h0:0 ≤ k) (h1:k<1048576):C n 238 [.int .u64 1,.int .u64 k] h=some (.ret (.tup [.int .u64 0,.int .u64 k]),h):=by
 obtain ⟨m,rfl⟩:=pre1 n
 refine zak F238 rfl rfl rfl rfl ?_
 conv=>whnf
 refine zI (zmx (by decide) (by decide)) ?_
 conv=>whnf
 refine ⟨by decide,_,ze6 (by decide) (by decide),?_⟩
 conv=>whnf
 refine zI (zmx h0 (by omega)) ?_
 conv=>whnf
 refine ⟨by decide,_,ze6 h0 (by omega),?_⟩
 conv=>whnf
 refine zI (z:=k) (by rw [Int.one_mul,zin h0 (by omega)]) ?_
 conv=>whnf
 refine zI (z:=0) (by rw [Int.zero_mul];rfl) ?_
 conv=>whnf
 refine ⟨by decide,_,ze6 h0 (by omega),?_⟩
 conv=>whnf
 refine zI (z:=0) (by rfl) ?_
 conv=>whnf
 refine zI (zmx (by decide) (by decide)) ?_
 conv=>whnf
 refine ⟨by decide,_,ze6 (by decide) (by decide),?_⟩
 conv=>whnf
 refine zI (z:=0) (by rw [Int.mul_zero];rfl) ?_
 conv=>whnf
 refine zI (z:=0) (by rfl) ?_
 conv=>whnf
 refine zI (z:=0) (by rw [Int.mul_zero];rfl) ?_
 conv=>whnf
 refine zI (z:=0) (by rfl) ?_
 conv=>whnf
 refine ⟨by decide,_,ze6 (by decide) (by decide),?_⟩
 conv=>whnf
 refine zI (z:=0) (by rfl) ?_
 conv=>whnf
 refine zI (z:=k) (by rw [Int.one_mul,zin h0 (by omega)]) ?_
 conv=>whnf
 exact retP rfl rfl
theorem mul_eq (hn:2 ≤ n) (k:Int) (h0:0 ≤ k) (h1:k<1048576):C n 215 [.int .u64 1,.int .u64 k] h=some (.ret (.tup [.int .u64 0,.int .u64 k]),h):=by
 obtain ⟨m,rfl⟩:=pre1 n
 refine zak F215 rfl rfl rfl rfl ?_
 conv=>whnf
 refine clI (z1b (by omega) k h0 h1) ?_
 conv=>whnf
 exact retP rfl rfl
theorem z5a (hn:1 ≤ n) {hp:zaa}{b t:Nat}{a:AV}(hb:hp[b]?=some (.cells 0 (some t) [a,.lst 0 [] true] 0)) (ha:a=.ptr b 0 0) (ht:t=tBld ∨ t=tWri) (k:Int) (h0:0<k) (h1:k<1048576) :
  ∃ hp' F',C n 240 [.ptr b 0 0,i64 k] hp=some (.ret (.tup []),hp') ∧ Wrote hp hp' b [b] F' []:=by
 obtain ⟨m,rfl⟩:=pre1 n
 subst ha
 refine ⟨(hp++[AB.cells 0 (some 5) [] 0]).set b (.cells 0 (some t) (putAt [.ptr b 0 0,.lst 0 [] true] 1 [.sl 1 hp.length 0 0 0]) 0),[b,hp.length],?_,?_⟩
 ·refine zat F240 rfl rfl ?_
  have hb':=za8 (x:=AB.cells 0 (some 5) [] 0) hb
  conv=>whnf
  refine ldI hb ?_
  conv=>whnf
  refine ⟨0,rfl,?_⟩
  conv=>whnf
  refine zI (z:=0) (by rfl) ?_
  conv=>whnf
  refine zI (z:=k) (by rw [zae (by omega) (by omega)];omega) ?_
  conv=>whnf
  refine ldI hb ?_
  conv=>whnf
  refine ⟨by omega,by omega,?_⟩
  conv=>whnf
  refine ⟨⟨?_,?_⟩,?_⟩
  ·conv=>whnf
   exact ldI hb' rfl
  ·conv=>whnf
   exact ldI hb' rfl
  conv=>whnf
  refine slI (v:=.sl 1 hp.length 0 0 0) ?_ ?_
  ·unfold zbs
   simp only [Option.getD_none,Option.getD_some]
   rw [if_pos ⟨by omega,by simp,by simp;omega,trivial⟩,if_neg (by omega)]
   simp
  conv=>whnf
  refine ldI hb' ?_
  refine ⟨_,rfl,?_⟩
  conv=>whnf
  refine stJ hb' ?_
  exact ⟨rfl,[],rfl,rfl,rfl⟩
 ·have hlt:=zab hb
  refine ⟨⟨_,_,_,by rw [List.getElem?_set_self (by simp;omega)];rfl,.inr rfl,ht,.inr ⟨hp.length,0,0,rfl,?_,by omega,Nat.le_refl _,rfl⟩⟩,((Keep.app hp _ []).mono (by simp)).set' (.inl (by simp)),?_⟩
  ·rw [List.getElem?_set_ne (by omega)];simp
  ·intro x hx;simp at hx;rcases hx with rfl | rfl<;>simp
theorem zzj (hn:2 ≤ n) {hp:zaa}{b:Nat}(hb:hp[b]?=some (.cells 0 (some tBld) [.nilp,.lst 0 [] true] 0)) (k:Int) (h0:0<k) (h1:k<1048576) :
  ∃ hp' F',C n 217 [.ptr b 0 0,i64 k] hp=some (.ret (.tup []),hp') ∧ Wrote hp hp' b [b] F' []:=by
 obtain ⟨m,rfl⟩:=pre1 n
 have w:BW hp b [] [b]:=⟨_,_,_,hb,.inl rfl,.inl rfl,.inl ⟨rfl,rfl,rfl⟩⟩
 obtain ⟨hp1,t,buf,ec,hb1,ht,hB,k1⟩:=zfs (n:=m) (by omega) w
 have hbuf:buf=.lst 0 [] true:=by
  rcases hB with ⟨q,_,_⟩ | ⟨bb,ver,frz,_,_,_,_,q⟩
  ·exact q
  ·simp at q
 subst hbuf
 obtain ⟨h2,F2,e2,w2⟩:=z5a (n:=m) (by omega) hb1 rfl ht k h0 h1
 refine ⟨h2,F2,?_,w2.1,k1.trans w2.2.1 (fun x hx=>.inl hx),fun x hx=>(w2.2.2 x hx).imp id fun q=>Nat.le_trans k1.1 q⟩
 refine zat F217 rfl rfl ?_
 conv=>whnf
 refine clI ec ?_
 conv=>whnf
 refine brd (fun a=>absurd a (by omega)) (fun a=>?_)
 conv=>whnf
 refine ldI hb1 ?_
 conv=>whnf
 refine ⟨0,rfl,?_⟩
 conv=>whnf
 refine ldI hb1 ?_
 conv=>whnf
 refine zI (z:=0) (by rfl) ?_
 conv=>whnf
 refine brd (fun a=>?_) (fun a=>absurd (by omega) a)
 conv=>whnf
 refine clI e2 ?_
 exact ⟨rfl,[],rfl,rfl,rfl⟩
def zaw (k:Nat):Str:=List.replicate k 0
theorem zay (k:Nat):(zaw k).length=k:=by simp [zaw]
theorem zwh (hn:4 ≤ n) (k:Nat) (hk:k ≤ 4096):C n 177 [.str [0],i64 k] h=some (.ret (.str (zaw k)),h):=by
 obtain ⟨m,rfl⟩:=pre1 n
 refine zak F177 rfl rfl rfl rfl ?_
 conv=>whnf
 refine bre (fun a=>?_) (fun a=>?_)
 ·have:k=0:=by omega
  subst this
  conv=>whnf
  exact retP rfl (zh3 rfl)
 conv=>whnf
 refine bre (fun a1=>?_) (fun a1=>?_)
 ·have:k=1:=by omega
  subst this
  conv=>whnf
  exact retP rfl (zh3 rfl)
 have hk2:2 ≤ k:=by omega
 conv=>whnf
 refine zI (z:=1) (by rfl) ?_
 conv=>whnf
 refine zI (zin (by omega) (by omega)) ?_
 conv=>whnf
 refine clI (mul_eq (by omega) k (by omega) (by omega)) ?_
 conv=>whnf
 refine brd (fun a3=>absurd a3 (by omega)) (fun a3=>?_)
 conv=>whnf
 refine zI (zae (by omega) (by omega)) ?_
 conv=>whnf
 refine strI (b:=0) (by omega) (by rfl) ?_
 conv=>whnf
 refine brd (fun a4=>absurd a4 (by omega)) (fun a4=>?_)
 conv=>whnf
 obtain ⟨h2,F2,e2,w2⟩:=zzj (n:=m) (hp:=([]:zaa)++[AB.cells 0 (some tBld) [.nilp,.lst 0 [] true] 0]) (b:=0) (by omega) rfl k (by omega) (by omega)
 refine clI e2 ?_
 obtain ⟨h3,F3,e3,w3⟩:=zbm (n:=m) (by omega) w2.1 [0] (by simp)
 conv=>whnf
 refine clI e3 ?_
 conv=>whnf
 refine za1 (by decide) rfl (α:=Nat × List Nat × zaa) (fun x=>⟨[(7,i64 k),(8,i64 k),(9,.ptr 0 0 0)],x.2.2,[]⟩) (fun x=>(1 ≤ x.1 ∧ x.1 ≤ k) ∧ BW x.2.2 0 (zaw x.1) x.2.1) (fun x=>k-x.1) (1,F3,h3) ⟨⟨rfl,rfl,rfl⟩,rfl,rfl⟩ ⟨⟨Nat.le_refl _,by omega⟩,w3.1⟩ (by show k-1<KK;simp only [KK];omega) ?_
 rintro ⟨c,G,hp⟩ ⟨⟨g1,g2⟩,g3⟩
 simp only at g1 g2 g3
 conv=>whnf
 refine clI (zl7 (n:=m) (by omega) g3) ?_
 conv=>whnf
 have el:((zaw c).length:Int)=(c:Int):=by rw [zay]
 rw [el]
 refine brd (fun a5=>?_) (fun a5=>?_)
 ·have hc:c<k:=by omega
  conv=>whnf
  refine clI (zl7 (n:=m) (by omega) g3) ?_
  conv=>whnf
  rw [el]
  refine zI (zae (by omega) (by omega)) ?_
  conv=>whnf
  refine clI (zl7 (n:=m) (by omega) g3) ?_
  conv=>whnf
  rw [el]
  refine ⟨_,(show mm2 false (mm2 false ((k:Int)-c) c) k=((min (k-c) c:Nat):Int) from ?_),?_⟩
  ·unfold mm2
   simp only [cond_false]
   repeat' split
   all_goals omega
  obtain ⟨h4,e4,w4⟩:=zfx (n:=m) (by omega) g3 (by intro e;have:=congrArg List.length e;rw [zay] at this;simp at this;omega) (by rw [zay];omega)
  conv=>whnf
  refine clI e4 ?_
  conv=>whnf
  refine ztf (c:=min (k-c) c) (by rw [zay];omega) ?_
  have et:(zaw c).take (min (k-c) c)=zaw (min (k-c) c):=by unfold zaw;rw [List.take_replicate];congr 1;omega
  obtain ⟨h5,F5,e5,w5⟩:=zbm (n:=m) (by omega) w4.1 (zaw (min (k-c) c)) (by rw [zay,zay];omega)
  conv=>whnf
  refine clI (by rw [et];exact e5) ?_
  conv=>whnf
  refine nxI (c+min (k-c) c,F5,h5) ⟨⟨by omega,by omega⟩,?_⟩ (by simp only;omega) ⟨⟨rfl,rfl,rfl⟩,rfl,rfl⟩
  have:=w5.1
  unfold zaw at this ⊢
  rwa [List.replicate_append_replicate] at this
 ·have hc:c=k:=by omega
  subst hc
  obtain ⟨h4,e4,w4⟩:=zfx (n:=m) (by omega) g3 (by intro e;have:=congrArg List.length e;rw [zay] at this;simp at this;omega) (by rw [zay];omega)
  conv=>whnf
  refine cutI (by decide) rfl (t:=⟨[(9,.ptr 0 0 0)],hp,[]⟩) ⟨rfl,rfl,rfl⟩ ?_
  conv=>whnf
  refine clI e4 ?_
  conv=>whnf
  exact retP rfl (zh3 rfl)
end
theorem zwf {e:Entry}{lv:Int}(hv:if lv=0 then za3 e≠0 else zbx e=true) (h0:0 ≤ lv):zdo e lv=true ∧ (((zhu e lv).length:Nat):Int)+e.key.length+3=zez e lv:=by
 by_cases hl:lv=0
 ·subst hl
  rw [if_pos rfl] at hv
  refine ⟨zk4 hv,?_⟩
  have hf:za3 e=1 ∨ za3 e=2 ∨ za3 e=3:=by
   have:za3 e=0 ∨ za3 e=1 ∨ za3 e=2 ∨ za3 e=3:=by
    unfold za3
    repeat' (first | split)
    all_goals simp
   omega
  have f0:¬ (0:Int)<0:=by omega
  unfold zez zhu
  rcases hf with hf | hf | hf
  ·have hs:zer e=true:=by
    have hf':=hf
    by_cases q:zer e=true
    ·exact q
    ·unfold za3 at hf'
     simp only [q,if_false] at hf'
     repeat' split at hf'
     all_goals simp_all
   simp [zer] at hs
   obtain ⟨⟨⟨⟨⟨g1,g2⟩,g3⟩,g4⟩,_⟩,g5⟩:=hs
   have f1:¬ 0<e.over:=by omega
   have f2:¬ 0<e.child:=by omega
   simp only [f0,f1,f2,if_false,hf,if_true]
   simp [zal];omega
  ·have hs:zju e=true:=by
    by_cases q:zju e=true
    ·exact q
    ·unfold za3 at hf
     simp only [q,if_false] at hf
     repeat' split at hf
     all_goals simp_all
   simp [zju,za7,za5] at hs
   have f1:0<e.over:=by omega
   simp only [f0,f1,if_false,hf,if_true]
   simp [zal,Dg.bytes_len];omega
  ·have hs:zjt e=true:=by
    by_cases q:zjt e=true
    ·exact q
    ·unfold za3 at hf
     simp only [q,if_false] at hf
     repeat' split at hf
     all_goals simp_all
   simp [zjt,za7,za5] at hs
   have f1:¬ 0<e.over:=by omega
   have f2:0<e.child:=by omega
   simp only [f0,f1,f2,if_false,hf,if_true]
   simp [zal,Dg.bytes_len];omega
 ·rw [if_neg hl] at hv
  have hp:0<lv:=by omega
  refine ⟨by simp [zdo,hp,hv],?_⟩
  unfold zez zhu
  rw [if_pos hp,if_pos hp]
  simp [zal,Dg.bytes_len];omega
def cuts (l:List Entry) (lv:Int):Nat → Nat
 | 0=>0
 | k+1=>cuts l lv k+zd7 l lv k
theorem zpf (l:List Entry) (lv:Int) {i:Nat}:∀ {k:Nat},i<k → zd7 l lv i ≤ cuts l lv k
 | 0,h=>by omega
 | k+1,h=>by
  simp only [cuts]
  by_cases e:i=k
  ·subst e;omega
  ·have:=zpf l lv (i:=i) (k:=k) (by omega);omega
theorem zhq {l:List Entry}{lv:Int}(hv:zdp l lv=true) {j:Nat}(hj:j<l.length):(if lv=0 then za3 l[j]≠0 else zbx l[j]=true) ∧ (lv=0 ∨ j=0 ∨ l[j].key≠[]) ∧ (j=0 ∨ cmpS l[j-1].key l[j].key<0):=by
 obtain ⟨h1,h2,h3,h4⟩:=valid_iff.1 hv
 have:=h4 j hj
 rw [zix hj] at this
 by_cases e0:lv=0
 ·subst e0
  simp at this
  exact ⟨by rw [if_pos rfl];exact this.1,.inl rfl,this.2⟩
 ·simp [e0] at this
  exact ⟨by rw [if_neg e0];exact this.1.1,.inr this.1.2,this.2⟩
theorem zgs {l:List Entry}{lv:Int}(hv:zdp l lv=true):∀ k,k ≤ l.length → ∃ s,wsum lv (l.take k)=some s ∧ (((zej l lv k).length:Nat):Int)+2*k+cuts l lv k=s
 | 0,_=>⟨0,by simp [wsum],by simp [zej,cuts]⟩
 | k+1,hk=>by
  obtain ⟨s,h1,h2⟩:=zgs hv k (by omega)
  have hk':k<l.length:=by omega
  have hf:=(zhq hv hk').1
  obtain ⟨g1,g2⟩:=zwf hf (valid_iff.1 hv).1.1
  have hw:=zit hk' h1
  rw [if_pos g1] at hw
  refine ⟨_,hw,?_⟩
  have hc:=zss (lv:=lv) hk'
  rw [zei l lv hk',List.length_append]
  unfold entB
  simp only [List.length_append,zal,List.length_drop,cuts]
  omega
theorem zhb {tree lv:Int}{top:Bool}{l:List Entry}{base:Nat}(hf:fits l lv=true):(zkv tree lv top l base).length ≤ 496 ∧ zdp l lv=true ∧ l.length ≤ 98:=by
 unfold fits at hf
 simp only [Bool.and_eq_true] at hf
 obtain ⟨hv,hw⟩:=hf
 obtain ⟨⟨q1,q2⟩,hne,q3,_⟩:=valid_iff.1 hv
 obtain ⟨s,h1,h2⟩:=zgs hv l.length (Nat.le_refl _)
 rw [List.take_length] at h1
 have hws:zgw l lv=some (6+s):=by unfold zgw;rw [if_pos (within_iff.2 ⟨q1,q2⟩),h1];rfl
 rw [hws] at hw
 simp at hw
 have hpos:0<l.length:=by cases l with | nil=>exact (hne rfl).elim | cons=>simp
 have hcut:(shared l lv).length ≤ cuts l lv l.length:=by
  have h3:=zpf l lv (i:=l.length-1) (k:=l.length) (by omega)
  unfold zd7 at h3
  rw [if_neg (by omega)] at h3
  exact h3
 have hents:5*(l.length:Int) ≤ s:=by
  have:∀ k,k ≤ l.length → ∀ s,wsum lv (l.take k)=some s → 5*(k:Int) ≤ s:=by
   intro k
   induction k with
   | zero=>intro _ s h;simp [wsum] at h;omega
   | succ k ih =>
    intro hk s h
    obtain ⟨s',g1,_⟩:=zgs hv k (by omega)
    have hf:=(zhq hv (show k<l.length by omega)).1
    have g2:=(zwf hf q1).1
    have hw:=zit (show k<l.length by omega) g1
    rw [if_pos g2,h] at hw
    have:=ih (by omega) s' g1
    have:=(ziw g2).1
    have:=Option.some.inj hw
    omega
  exact this l.length (Nat.le_refl _) s (by rw [List.take_length];exact h1)
 refine ⟨?_,hv,by omega⟩
 unfold zkv
 simp only [List.length_append,zal,zfg]
 omega
theorem zgr:∀ (l:List Freed),((zbj l).length:Int)+6=zbu l
 | []=>by simp [zbj,zbu]
 | f::r=>by
  have h1:=zgr r
  have h2:=zlu f
  simp only [zbj,zbu,List.flatMap_cons,List.map_cons,List.sum_cons,List.length_append] at h1 ⊢
  omega
theorem zh4 {l:List Freed}(h:zet l=true) {j:Nat}(hj:j<l.length):(0 ≤ l[j].ver ∧ l[j].ver ≤ 1099511627776) ∧ l[j].pages≠[] ∧ (j=0 ∨ l[j-1].ver<l[j].ver) ∧ zku l[j].pages=true:=by
 have:=List.all_eq_true.1 h j (List.mem_range.2 hj)
 rw [zm4 hj] at this
 simp [za5] at this
 exact ⟨this.1.1,this.1.2.1,this.1.2.2,this.2⟩
theorem zmq {l:List Int}(h:zku l=true) {j:Nat}(hj:j<l.length):(2 ≤ l[j] ∧ l[j] ≤ 4095) ∧ (j=0 ∨ l[j-1]<l[j]):=by
 have:=List.all_eq_true.1 h j (List.mem_range.2 hj)
 rw [zip hj] at this
 simp [za7,za5] at this
 exact this
def Page.bodyB (p:Page):Str:=if p.kind=3 then zh8 p.next p.data else if p.kind=4 then zoo p.next p.freed else zkv p.tree p.level p.top p.entries 12
def Page.headB (p:Page):Str:=85::(num p.kind.toNat 1++(num p.no.toNat 4++num p.ver.toNat 6))
def Page.used (p:Page):Str:=p.headB++p.bodyB
def Page.full (p:Page):Str:=p.used++zaw (508-p.used.length)
def Page.enc (p:Page):Str:=p.full++crcB p.full
theorem zfm (p:Page):p.headB.length=12:=by simp [Page.headB,zal]
theorem check_iff {p:Page}:p.check=true ↔ (2 ≤ p.no ∧ p.no ≤ 4095) ∧ (0 ≤ p.ver ∧ p.ver ≤ 1099511627776) ∧
  (((p.kind=1 ∨ p.kind=2) ∧ (0 ≤ p.tree ∧ p.tree ≤ 255) ∧ (p.kind=1 ↔ p.level=0) ∧ fits p.entries p.level=true ∧ p.next=0 ∧ p.data=[] ∧ p.freed=[]) ∨
  (p.kind=3 ∧ p.plain=true ∧ zia p.next=true ∧ (1 ≤ p.data.length ∧ p.data.length ≤ 490) ∧ p.freed=[]) ∨
  (p.kind=4 ∧ p.plain=true ∧ zia p.next=true ∧ p.data=[] ∧ zet p.freed=true ∧ zbu p.freed ≤ 496)):=by
 unfold Page.check
 simp only [Bool.and_eq_true,za7,za5,decide_eq_true_eq]
 by_cases h1:p.kind=1 ∨ p.kind=2
 ·have h3:p.kind≠3:=by omega
  have h4:p.kind≠4:=by omega
  simp only [h1,h3,h4,if_true,false_and,or_false,true_and]
  have e:(((p.kind==1)==(p.level==0))=true) ↔ (p.kind=1 ↔ p.level=0):=by
   have e1:(p.kind==1)=decide (p.kind=1):=rfl
   have e2:(p.level==0)=decide (p.level=0):=rfl
   rw [e1,e2]
   by_cases a:p.kind=1<;>by_cases b:p.level=0<;>simp [a,b]
  simp [e]
 ·by_cases h3:p.kind=3
  ·simp [h3,za5]
   omega
  ·by_cases h4:p.kind=4
   ·simp [h4]
   ·simp [h1,h3,h4]
theorem zec {k:Int}(h:zia k=true):0 ≤ k ∧ k ≤ 4095:=by
 simp [zia,za7,za5] at h;omega
theorem zyz {p:Page}(hc:p.check=true):p.bodyB.length ≤ 496:=by
 obtain ⟨_,_,h⟩:=check_iff.1 hc
 unfold Page.bodyB
 rcases h with ⟨h1,_,_,h2,_⟩ | ⟨h1,_,_,h2,_⟩ | ⟨h1,_,_,_,_,h2⟩
 ·rw [if_neg (by omega),if_neg (by omega)];exact (zhb h2).1
 ·rw [if_pos h1];simp [zh8,zal];omega
 ·rw [if_neg (by omega),if_pos h1]
  have:=zgr p.freed
  simp only [zoo,List.length_append,zal];omega
theorem zrn {p:Page}(hc:p.check=true):p.used.length ≤ 508:=by
 have:=zyz hc
 unfold Page.used
 rw [List.length_append,zfm];omega
theorem zf7 {p:Page}(hc:p.check=true):p.full.length=508:=by
 have:=zrn hc
 unfold Page.full
 rw [List.length_append,zay];omega
theorem zgt {p:Page}(hc:p.check=true):p.enc.length=512:=by
 unfold Page.enc
 rw [List.length_append,zf7 hc];rfl
section
variable {n:Nat}{h:zaa}
theorem zun (hn:9 ≤ n) (p:Page) (ok:p.Ok) (hc:p.check=false):C n 119 [p.av] h=some (.ret (.tup [.str [],i64 2]),h):=by
 obtain ⟨m,rfl⟩:=pre1 n
 have ec:∀ h,C m 143 [p.av] h=some (.ret (i64 2),h):=fun h=>by rw [zng (by omega) p ok,hc];rfl
 refine zak F119 rfl rfl rfl (by simp [zam,zb5]) ?_
 conv=>whnf
 refine ldI (by rfl) ?_
 conv=>whnf
 refine clI (ec _) ?_
 conv=>whnf
 exact retP rfl rfl
theorem zqt (hn:9 ≤ n) (p:Page) (ok:p.Ok) (hc:p.check=true):C n 119 [p.av] h=some (.ret (.tup [.str p.enc,i64 0]),h):=by
 obtain ⟨m,rfl⟩:=pre1 n
 have ec:∀ h,C m 143 [p.av] h=some (.ret (i64 0),h):=fun h=>by rw [zng (by omega) p ok,hc];rfl
 obtain ⟨⟨n1,n2⟩,⟨v1,v2⟩,kinds⟩:=check_iff.1 hc
 have hk:1 ≤ p.kind ∧ p.kind ≤ 4:=by rcases kinds with ⟨h,_⟩ | ⟨h,_⟩ | ⟨h,_⟩<;>omega
 refine zak F119 rfl rfl rfl (by simp [zam,zb5]) ?_
 conv=>whnf
 refine ldI (by rfl) ?_
 conv=>whnf
 refine clI (ec _) ?_
 have e1:(([]:zaa)++[AB.cells 0 (some 79) p.cells 0]++[AB.cells 0 (some tWri) [.nilp,.lst 0 [] true] 0])[0]?=some (.cells 0 (some 79) p.cells 0):=rfl
 have w1:BW (([]:zaa)++[AB.cells 0 (some 79) p.cells 0]++[AB.cells 0 (some tWri) [.nilp,.lst 0 [] true] 0]) 1 [] [1]:=⟨_,_,_,rfl,.inl rfl,.inr rfl,.inl ⟨rfl,rfl,rfl⟩⟩
 have ne1:0 ∉ [1]:=by simp
 conv=>whnf
 refine byteC (n:=m) (hp:=([]:zaa)++[AB.cells 0 (some 79) p.cells 0]++[AB.cells 0 (some tWri) [.nilp,.lst 0 [] true] 0]) (by omega) w1 85 (by simp) fun h2 F2 w2=>?_
 have e2:=(w2.keep e1 ne1).1
 have ne2:=(w2.keep e1 ne1).2
 conv=>whnf
 refine ldI e2 ?_
 conv=>whnf
 refine numC (n:=m) (hp:=h2) (by omega) w2.1 p.kind (by omega) 1 (by omega) (by simp) fun h3 F3 w3=>?_
 have e3:=(w3.keep e2 ne2).1
 have ne3:=(w3.keep e2 ne2).2
 conv=>whnf
 refine ldI e3 ?_
 conv=>whnf
 refine numC (n:=m) (hp:=h3) (by omega) w3.1 p.no (by omega) 4 (by omega) (by simp [zal]) fun h4 F4 w4=>?_
 have e4:=(w4.keep e3 ne3).1
 have ne4:=(w4.keep e3 ne3).2
 conv=>whnf
 refine ldI e4 ?_
 conv=>whnf
 refine numC (n:=m) (hp:=h4) (by omega) w4.1 p.ver (by omega) 6 (by omega) (by simp [zal]) fun h5 F5 w5=>?_
 have e5:=(w5.keep e4 ne4).1
 have ne5:=(w5.keep e4 ne4).2
 have hb:BW h5 1 p.headB F5:=by
  have:=w5.1
  simpa [Page.headB,List.append_assoc] using this
 conv=>whnf
 refine ldI e5 ?_
 conv=>whnf
 have fin:∀ (s':LS) (h6:zaa) (F6:List Nat),Wrote h5 h6 1 F5 F6 p.used → LS.sub ⟨[(4,.ptr 1 0 0)],h6,[]⟩ s' → OkR Tryz.prog (C m) cfg0.inl KK 45 6 (ze3 c119) s' (RetQ Tryz.prog [.tmp 2,.tmp 3] fun v' h'=>frz h' 64 v'=some (.tup [.str p.enc,i64 0])):=by
  intro s' h6 F6 w6 hs'
  have hul:=zrn hc
  have w6':=w6.1
  refine cutI (by decide) rfl hs' ?_
  conv=>whnf
  refine clI (zl7 (n:=m) (by omega) w6') ?_
  conv=>whnf
  refine zI (z:=((508-p.used.length:Nat):Int)) (by rw [zae (by omega) (by omega)];omega) ?_
  conv=>whnf
  refine clI (zwh (n:=m) (by omega) (508-p.used.length) (by omega)) ?_
  conv=>whnf
  refine strC (n:=m) (hp:=h6) (by omega) w6' (zaw (508-p.used.length)) (by rw [zay];omega) fun h7 F7 w7=>?_
  have hfl:=zf7 hc
  obtain ⟨h8,e8,w8⟩:=zfx (n:=m) (by omega) w7.1 (by intro q;have:=congrArg List.length q;rw [show p.used++zaw (508-p.used.length)=p.full from rfl,hfl] at this;simp at this) (by rw [show p.used++zaw (508-p.used.length)=p.full from rfl,hfl];omega)
  conv=>whnf
  refine clI e8 ?_
  conv=>whnf
  refine clI (zna (n:=m) (by omega) p.full (by omega)) ?_
  conv=>whnf
  exact retP rfl rfl
 have hbo:=z5z (n:=m) (h:=h5) (by omega) p
 rcases kinds with ⟨k1,_,_,hf,_⟩ | ⟨k1,_,hl,⟨_,hd⟩,_⟩ | ⟨k1,_,hl,_,hfr,hli⟩
 ·have kb:p.body=.ifc 296 (.agg (zfi p.tree p.level p.top p.entries p.esh.sz p.esh.c)):=by unfold Page.body;rw [if_neg (by omega),if_neg (by omega)]
  have kB:p.bodyB=zkv p.tree p.level p.top p.entries 12:=by unfold Page.bodyB;rw [if_neg (by omega),if_neg (by omega)]
  obtain ⟨_,hv,h98⟩:=zhb (tree:=0) (top:=true) (base:=0) hf
  obtain ⟨h6,F6,e6,w6⟩:=z4s (n:=m) (by omega) hb p.tree p.level p.top (by rcases check_iff.1 hc with ⟨_,_,⟨_,⟨q,_⟩,_⟩ | ⟨q,_⟩ | ⟨q,_⟩⟩<;>omega) p.entries p.esh.sz ok.esz p.esh.c hv (by omega) (by rw [zfm];omega)
  rw [kb] at hbo
  refine clI hbo ?_
  conv=>whnf
  refine ivI (by kernel_rfl) (by kernel_rfl) e6 ?_
  rw [zfm] at w6
  exact fin _ h6 F6 (by unfold Page.used;rw [kB];exact w6) ⟨rfl,rfl,rfl⟩
 ·have kb:p.body=.ifc 292 (.agg [i64 p.next,.str p.data]):=by unfold Page.body;rw [if_pos k1]
  have kB:p.bodyB=zh8 p.next p.data:=by unfold Page.bodyB;rw [if_pos k1]
  obtain ⟨h6,F6,e6,w6⟩:=z04 (n:=m) (by omega) hb p.next (zec hl).1 p.data (by rw [zfm];omega)
  rw [kb] at hbo
  refine clI hbo ?_
  conv=>whnf
  refine ivI (by kernel_rfl) (by kernel_rfl) e6 ?_
  exact fin _ h6 F6 (by unfold Page.used;rw [kB];exact w6) ⟨rfl,rfl,rfl⟩
 ·have kb:p.body=.ifc 294 (.agg [i64 p.next,.lst p.fsh.sz (p.freed.map Freed.av) p.fsh.c]):=by unfold Page.body;rw [if_neg (by omega),if_pos k1]
  have kB:p.bodyB=zoo p.next p.freed:=by unfold Page.bodyB;rw [if_neg (by omega),if_pos k1]
  have hfl:=zgr p.freed
  have hfn:(p.freed.length:Int)*8 ≤ zbu p.freed:=by
   have:∀ l:List Freed,(l.length:Int)*8 ≤ zbu l:=by
    intro l
    induction l with
    | nil=>simp [zbu]
    | cons f r ih=>simp only [zbu,List.map_cons,List.sum_cons,List.length_cons] at ih ⊢;omega
   exact this _
  obtain ⟨h6,F6,e6,w6⟩:=z41 (n:=m) (by omega) hb p.next (zec hl).1 p.freed p.fsh.sz ok.fsz p.fsh.c (fun f hf=>by
   obtain ⟨j,hj,rfl⟩:=List.getElem_of_mem hf
   obtain ⟨q1,_,_,q2⟩:=zh4 hfr hj
   refine ⟨(ok.fr _ hf).1,q1.1,fun k hk=>?_⟩
   obtain ⟨i,hi,rfl⟩:=List.getElem_of_mem hk
   have:=(zmq q2 hi).1
   omega) (by rw [zfm];omega)
  rw [kb] at hbo
  refine clI hbo ?_
  conv=>whnf
  refine ivI (by kernel_rfl) (by kernel_rfl) e6 ?_
  exact fin _ h6 F6 (by unfold Page.used;rw [kB];exact w6) ⟨rfl,rfl,rfl⟩
theorem zj8 (hn:9 ≤ n) (p:Page) (ok:p.Ok):C n 119 [p.av] h=some (.ret (.tup [.str (if p.check then p.enc else []),i64 (if p.check then 0 else 2)]),h):=by
 cases hc:p.check with
 | true=>exact zqt hn p ok hc
 | false=>exact zun hn p ok hc
end
def zgf (s:Str):Bool:=decide (s.length=512)&&(decide (s.getD 0 0=85)&&(decide (s.take 508++crcB (s.take 508)=s)&&za5 ((s.getD 1 0).toNat:Int) 1 4))
def zbo:List AV:=[i64 0,i64 0,i64 0,i64 0,i64 0,.bool false,.lst 0 [] true,i64 0,.str [],.lst 0 [] true]
section
variable {n:Nat}{h:zaa}
theorem zvr (c:UInt8):((c.toNat:Int)=85) ↔ c=85:=by
 constructor
 ·intro h;exact UInt8.toNat_inj.1 (by simpa using (by omega:c.toNat=85))
 ·rintro rfl;rfl
theorem z1t (hn:4 ≤ n) (s:Str) (hb:zgf s=false):C n 205 [.str s] h=some (.ret (.tup [i64 0,i64 0,i64 0,i64 8]),h):=by
 obtain ⟨m,rfl⟩:=pre1 n
 refine zak F205 rfl rfl rfl rfl ?_
 have fin:∀ {L:LT}{hp:zaa},lk L 2=some (i64 0) → lk L 3=some (i64 0) → lk L 4=some (i64 0) → lk L 5=some (i64 8) → RetQ Tryz.prog [.tmp 2,.tmp 3,.tmp 4,.tmp 5] (fun v' h'=>frz h' 64 v'=some (.tup [i64 0,i64 0,i64 0,i64 8])) .ret ⟨L,hp,[]⟩:=fun {L hp} h2 h3 h4 h5=>⟨rfl,[i64 0,i64 0,i64 0,i64 8],by simp [zbv,h2,h3,h4,h5],rfl⟩
 conv=>whnf
 refine brq (fun a=>?_) (fun a=>?_)
 ·conv=>whnf
  exact fin rfl rfl rfl rfl
 have hl:s.length=512:=by omega
 have e0:s.getD 0 0=s[0]'(by omega):=by simp [hl]
 have e1:s.getD 1 0=s[1]'(by omega):=by simp [hl]
 conv=>whnf
 refine strI (b:=s[0]'(by omega)) (by omega) (List.getElem?_eq_getElem (by omega)) ?_
 conv=>whnf
 refine brq (fun a0=>?_) (fun a0=>?_)
 ·conv=>whnf
  exact fin rfl rfl rfl rfl
 rw [zvr] at a0
 conv=>whnf
 refine ztf (c:=508) (by omega) ?_
 conv=>whnf
 refine clI (zna (n:=m) (by omega) (s.take 508) (by rw [List.length_take];omega)) ?_
 conv=>whnf
 refine br (fun a2=>?_) (fun a2=>?_)
 ·conv=>whnf
  exact fin rfl rfl rfl rfl
 have a2':s.take 508++crcB (s.take 508)=s:=by simpa using a2
 conv=>whnf
 refine strI (b:=s[1]'(by omega)) (by omega) (List.getElem?_eq_getElem (by omega)) ?_
 conv=>whnf
 refine zI (z:=((s[1]'(by omega)).toNat:Int)) (by have:=(s[1]'(by omega)).toNat_lt;exact zae (by omega) (by omega)) ?_
 conv=>whnf
 refine clI (zco (by omega) _ _ _) ?_
 conv=>whnf
 refine brn (fun a3=>?_) (fun a3=>?_)
 ·conv=>whnf
  exact fin rfl rfl rfl rfl
 ·exfalso
  unfold zgf at hb
  rw [e0,e1,a0,a3] at hb
  simp [hl,a2'] at hb
set_option maxRecDepth 10000 in
theorem zuq (hn:5 ≤ n) (s:Str) (hb:zgf s=false):C n 162 [.str s] h=some (.ret (.tup [.agg zbo,i64 8]),h):=by
 obtain ⟨m,rfl⟩:=pre1 n
 refine zak F162 rfl rfl rfl rfl ?_
 conv=>whnf
 refine clI (z1t (n:=m) (by omega) s hb) ?_
 conv=>whnf
 refine stJ (xs:=zbo) (by rfl) ?_
 refine ⟨rfl,[.agg zbo,i64 8],?_,rfl⟩
 have el:zbp Tryz.prog [.cells 0 (some 79) zbo 0] 79 (.ptr 0 0 0)=some (.agg zbo):=zbl (N:=10) (by kernel_rfl) rfl rfl
 show (match zbp Tryz.prog [.cells 0 (some 79) zbo 0] 79 (.ptr 0 0 0) with | some v=>some [v,i64 8] | none=>none)=_
 rw [el]
end
def cRec:RC:=match c230 with
 | .seq _ r=>r
 | _=>.skip
theorem D230:DefI 230 2 17 5 [] (some 5) [⟨some 2,none,.op (.mv (.t 5))⟩] cRec :=
 ⟨⟨Tryz.f230,Tryz.func230,by kernel_rfl,by kernel_rfl,by kernel_rfl⟩,by kernel_rfl,by decide,by kernel_rfl,by kernel_rfl,by kernel_rfl⟩
section
variable {m:Nat}{h:zaa}{P I:Nat}
theorem z4a:∃ h',zb7 Tryz.prog (C m) (zcl Tryz.prog cfg0.inl (C m)) KK 230 [.ptr P 0 0,.ptr I 0 0] .ret h=some (.ret,h') ∧ h'=h:=by
 refine zfo D230 rfl ?_
 conv=>whnf
 exact ⟨rfl,⟨[],rfl⟩,rfl⟩
theorem z4b {cs:List AV}{b:Bool}(hP:h[P]?=some (.cells 0 (some 79) cs 0)) (hc:cs.length=10) (hI:h[I]?=some (.cells 0 (some 4) [.bool b] 0)) :
  ∃ h',zb7 Tryz.prog (C m) (zcl Tryz.prog cfg0.inl (C m)) KK 230 [.ptr P 0 0,.ptr I 0 0] (.pan badV false) h=some (.pan badV true,h') ∧ h'[P]?=some (.cells 0 (some 79) zbo 0) ∧ h'[I]?=some (.cells 0 (some 4) [.bool false] 0):=by
 refine zfo D230 rfl ?_
 conv=>whnf
 refine stJ (zad _ _) ?_
 have lP:=zab hP
 have lI:=zab hI
 have nPI:P≠I:=by
  rintro rfl
  rw [hP] at hI
  have:=(AB.cells.inj (Option.some.inj hI)).2.1
  exact absurd (Option.some.inj this) (by decide)
 have e1:((h++[AB.cells 0 (some 314) [] 0]).set h.length (AB.cells 0 (some 314) (putAt [] 0 []) 0))[P]?=some (.cells 0 (some 79) cs 0):=by
  rw [List.getElem?_set_ne (by omega),List.getElem?_append_left lP];exact hP
 have e2:((h++[AB.cells 0 (some 314) [] 0]).set h.length (AB.cells 0 (some 314) (putAt [] 0 []) 0))[I]?=some (.cells 0 (some 4) [.bool b] 0):=by
  rw [List.getElem?_set_ne (by omega),List.getElem?_append_left lI];exact hI
 have hput:putAt cs 0 zbo=zbo:=by
  unfold putAt
  rw [List.take_zero,List.nil_append,List.drop_of_length_le (by rw [hc];decide),List.append_nil]
 conv=>whnf
 refine stI (xs:=zbo) e1 (by rfl) (by rfl) (by rw [hc];decide) (by rfl) ?_
 conv=>whnf
 refine stJ (cs:=[.bool b]) (by rw [List.getElem?_set_ne nPI];exact e2) ?_
 refine ⟨rfl,⟨[],rfl⟩,?_,?_⟩
 ·rw [List.getElem?_set_ne (Ne.symm nPI),List.getElem?_set_self (zab e1),hput]
 ·rw [List.getElem?_set_self (by rw [List.length_set];exact zab e2)]
  rfl
end
inductive Bdy where
 | nd (x:NodeP)
 | pc (x:Nat × Str)
 | ls (x:Nat × List (Nat × List Nat))
def zg9 (k:Nat) (s:Str):Option Bdy:=if k=1 ∨ k=2 then (zdh s).map fun x=>.nd x.1 else if k=3 then (zdr s).map fun x=>.pc x.1 else (zhx s).map fun x=>.ls x.1
structure Blk where
 kind:Nat
 no:Nat
 ver:Nat
 bd:Bdy
def ze1 (s:Str):Option Blk:=(pnum 1 ((s.take 508).drop 1)).bind fun k=>(pnum 4 k.2).bind fun no=>(pnum 6 no.2).bind fun v=>(zg9 k.1 v.2).map fun b=>⟨k.1,no.1,v.1,b⟩
def BdIs (q:Page):Bdy → Prop
 | .nd x=>q.tree=x.tree ∧ q.level=x.lv ∧ q.top=x.top ∧ q.entries=x.es ∧ q.next=0 ∧ q.data=[] ∧ q.freed=[]
 | .pc x=>q.tree=0 ∧ q.level=0 ∧ q.top=false ∧ q.entries=[] ∧ q.next=x.1 ∧ q.data=x.2 ∧ q.freed=[]
 | .ls x=>q.tree=0 ∧ q.level=0 ∧ q.top=false ∧ q.entries=[] ∧ q.next=x.1 ∧ q.data=[] ∧ FsAre q.freed x.2
structure BlkIs (q:Page) (x:Blk):Prop where
 kind:q.kind=x.kind
 no:q.no=x.no
 ver:q.ver=x.ver
 bd:BdIs q x.bd
 esz:q.entries≠[] → q.esh.sz=22
 fsz:q.freed≠[] → q.fsh.sz=2
def zzi (s:Str) (r:CRes):Prop:=match ze1 s with
 | none=>r=.ret (.tup [.agg zbo,.bool false])
 | some x=>∃ q:Page,r=.ret (.tup [q.av,.bool true]) ∧ BlkIs q x
theorem gs {h:zaa}{x y:Nat}{v w:AB}(e:h[x]?=some v) (n:y≠x):(h.set y w)[x]?=some v:=by rw [List.getElem?_set_ne n];exact e
theorem ge {h:zaa}{x:Nat}{v w:AB}(e:h[x]?=some v):(h.set x w)[x]?=some w:=List.getElem?_set_self (zab e)
theorem zew {xs:List AV}(h:xs.all AV.scal=true):AV.cells? (.agg xs)=some xs:=by
 show (if xs.all AV.scal=true then some xs else none)=_
 rw [if_pos h]
theorem zmr {a b c d e g:Int}{f:Bool}{t:Str}{L L':AV}(h1:L.scal=true) (h2:L'.scal=true):AV.cells? (.agg [i64 a,i64 b,i64 c,i64 d,i64 e,.bool f,L,i64 g,.str t,L'])=some [i64 a,i64 b,i64 c,i64 d,i64 e,.bool f,L,i64 g,.str t,L']:=zew (by simp only [List.all_cons,List.all_nil,h1,h2,Bool.and_true];rfl)
theorem GBuf.one {el:TypeId}{sz:Nat}{h:zaa}{X:Nat}{L:AV}{rows:List (List AV)}{G:List Nat}(g:GBuf el sz h X L rows G):L.cells?=some [L] ∧ L.scal=true:=by
 rcases g.2 with ⟨rfl,_⟩ | ⟨eb,ver,frz,rfl,_⟩<;>exact ⟨rfl,rfl⟩
theorem zkp {h:zaa}{a b c d e g:Int}{f:Bool}{t:Str}{L M L' M':AV}(h1:Abs.frz h 62 L=some M) (h2:Abs.frz h 62 L'=some M') :
  allM (Abs.frz h 62) [i64 a,i64 b,i64 c,i64 d,i64 e,.bool f,L,i64 g,.str t,L']=some [i64 a,i64 b,i64 c,i64 d,i64 e,.bool f,M,i64 g,.str t,M']:=by
 have fi:∀ k:Int,Abs.frz h 62 (i64 k)=some (i64 k):=fun _=>rfl
 have fb:Abs.frz h 62 (.bool f)=some (.bool f):=rfl
 have fs:Abs.frz h 62 (.str t)=some (.str t):=rfl
 simp only [allM,fi,fb,fs,h1,h2]
theorem zm3 {h:zaa}:Abs.frz h 62 (.lst 0 [] true)=some (.lst 0 [] true):=rfl
theorem LV.stays' {h h':zaa}{Y b:Nat}{LL:AV}{ts:List FT}{G I:List Nat}(v:LV h Y LL ts G I) (hG:∀ z∈G,b ≤ z) (hI:∀ z∈I,b ≤ z) (e:∀ x,b ≤ x → x<h.length → h'[x]?=h[x]?):LV h' Y LL ts G I:=by
 refine ⟨⟨v.buf.1,?_⟩,fun t ht=>?_⟩
 ·rcases v.buf.2 with r | ⟨eb,ver,frz,h1,h2,h3,h4,rfl⟩
  ·exact .inl r
  ·exact .inr ⟨eb,ver,frz,h1,by rw [e eb (hG eb (by simp)) (zab h2)];exact h2,h3,h4,rfl⟩
 ·rcases v.inr t ht with r | ⟨eb,ver,frz,h1,h2,h3⟩
  ·exact .inl r
  ·exact .inr ⟨eb,ver,frz,h1,by rw [e eb (hI eb h3) (zab h2)];exact h2,h3⟩
structure RS (h:zaa) (cs:List AV) (t:Str):Prop where
 p:h[0]?=some (.cells 0 (some 79) cs 0)
 i:h[1]?=some (.cells 0 (some 4) [.bool false] 0)
 r:RDs h 2 t
theorem RS.next {h h':zaa}{cs:List AV}{t t':Str}(a:RS h cs t) (k:Keep h h' [2]) (r:RDs h' 2 t'):RS h' cs t':=⟨k.get a.p (by simp),k.get a.i (by simp),r⟩
theorem RS.set {h:zaa}{cs cs':List AV}{t:Str}(a:RS h cs t):RS (h.set 0 (.cells 0 (some 79) cs' 0)) cs' t:=⟨ge a.p,gs a.i (by decide),a.r.stays (Keep.set (F:=[0]) (by simp)) (by simp)⟩
section
variable {m:Nat}{s:Str}
abbrev znm (m:Nat) (s:Str):Ex → LS → Prop:=EndQ Tryz.prog (C m) cfg0.inl [.cell 2 79,.cell 3 4] (fun r h=>∃ r',OutR r' r h ∧ zzi s r')
abbrev dfR:List DI:=[.fn 230 [.ptr 0 0 0,.ptr 1 0 0]]
theorem zsn:fnOk Tryz.prog 230=true:=D230.fine
theorem zhy {h:zaa}{b:Nat}{cs:List AV}(hl:cs.length=10) (hb:h[b]?=some (.cells 0 (some 79) cs 0)):zbp Tryz.prog h 79 (.ptr b 0 0)=some (.agg cs):=zbl (N:=10) (by kernel_rfl) hl hb
theorem zyy {h:zaa}{b:Nat}{v:AV}(hb:h[b]?=some (.cells 0 (some 4) [v] 0)):zbp Tryz.prog h 4 (.ptr b 0 0)=some v:=zmz (N:=1) (by kernel_rfl) hb
theorem zdm {L:LT}{h:zaa}{cs:List AV}(hn:ze1 s=none) (h2:lk L 2=some (.ptr 0 0 0)) (h3:lk L 3=some (.ptr 1 0 0)) (hP:h[0]?=some (.cells 0 (some 79) cs 0)) (hc:cs.length=10) (hI:h[1]?=some (.cells 0 (some 4) [.bool false] 0)):znm m s (.pan badV) ⟨L,h,dfR⟩:=by
 obtain ⟨h',e,g1,g2⟩:=z4b (m:=m) hP hc hI
 refine ⟨zsn,_,h',e,[.agg zbo,.bool false],?_,_,⟨_,rfl,rfl⟩,?_⟩
 ·simp only [zbv,h2,h3,zhy rfl g1,zyy g2]
 ·unfold zzi
  rw [hn]
  rfl
theorem zjf {L:LT}{h:zaa}{cs:List AV}(h2:lk L 2=some (.ptr 0 0 0)) (h3:lk L 3=some (.ptr 1 0 0)) (hP:h[0]?=some (.cells 0 (some 79) cs 0)) (hc:cs.length=10) (hI:h[1]?=some (.cells 0 (some 4) [.bool true] 0)) {q:Page}(hf:allM (frz h 62) cs=some q.cells) {x:Blk}(hx:ze1 s=some x) (hq:BlkIs q x):znm m s .ret ⟨L,h,dfR⟩:=by
 obtain ⟨h',e,rfl⟩:=z4a (m:=m) (h:=h) (P:=0) (I:=1)
 refine ⟨zsn,_,h',e,[.agg cs,.bool true],?_,.ret (.tup [q.av,.bool true]),⟨_,?_,rfl⟩,?_⟩
 ·simp only [zbv,h2,h3,zhy hc hP,zyy hI]
 ·show frz h' 64 (.tup [.agg cs,.bool true])=some (.tup [q.av,.bool true])
  have e1:frz h' 63 (.agg cs)=some q.av:=by
   unfold frz
   simp only [hf]
   rfl
  unfold frz allM allM
  simp only [e1]
  rfl
 ·unfold zzi
  rw [hx]
  exact ⟨q,rfl,hq⟩
abbrev zjh (k no v:Nat):List AV:=[i64 k,i64 no,i64 v,i64 0,i64 0,.bool false,.lst 0 [] true,i64 0,.str [],.lst 0 [] true]
set_option maxRecDepth 10000 in
theorem zwd (hn:6 ≤ m) {h3:zaa}{k no v:Nat}{t:Str}(a:RS h3 (zjh k no v) t) (hk:k=1 ∨ k=2) (hx:ze1 s=(zg9 k t).map fun b=>⟨k,no,v,b⟩) :
  OkR Tryz.prog (C m) cfg0.inl KK 61 6 (ze3 c206) ⟨[(2,.ptr 0 0 0),(3,.ptr 1 0 0),(4,.ptr 2 0 0)],h3,dfR⟩ (znm m s):=by
 refine cutS (by decide) rfl ?_
 conv=>whnf
 refine ldI a.p ?_
 obtain ⟨r4,h4,eB,sB⟩:=z4r (n:=m) (by omega) a.r (k:Int) (by omega)
 have l3:=a.r.lt
 conv=>whnf
 cases hp:zdh t with
 | none =>
  rw [hp] at sB
  obtain ⟨rfl,k4⟩:=sB
  refine clP eB ?_
  exact zdm (by rw [hx];simp only [zg9,if_pos hk,hp,Option.map_none]) rfl rfl (k4.get a.p (by simp)) rfl (k4.get a.i (by simp))
 | some x =>
  obtain ⟨x,u⟩:=x
  rw [hp] at sB
  obtain ⟨X,L,G,rfl,r4,g4,k4,lX,gG⟩:=sB
  have g1:=g4.one
  have lG:=g4.lt lX
  have e0:=k4.get a.p (by simp)
  have eI:=k4.get a.i (by simp)
  have l0:=zab e0
  have l1:=zab eI
  refine clI eB ?_
  conv=>whnf
  refine stI (xs:=[i64 x.tree,i64 x.lv,.bool x.top,L]) (zad _ _) (zew (by simp only [List.all_cons,List.all_nil,g1.2,Bool.and_true];rfl)) (by rfl) (by rfl) (by rfl) ?_
  have es:(h4++[AB.cells 0 (some 296) [i64 0,i64 0,.bool false,.lst 0 [] true] 0]).set h4.length (AB.cells 0 (some 296) (putAt [i64 0,i64 0,.bool false,.lst 0 [] true] 0 [i64 x.tree,i64 x.lv,.bool x.top,L]) 0)=h4++[AB.cells 0 (some 296) [i64 x.tree,i64 x.lv,.bool x.top,L] 0]:=by simp [putAt]
  have fin:∀ hf:zaa,(∀ y∈G,hf[y]?=h4[y]?) → hf[0]?=some (.cells 0 (some 79) [i64 k,i64 no,i64 v,i64 x.tree,i64 x.lv,.bool x.top,L,i64 0,.str [],.lst 0 [] true] 0) → hf[1]?=some (.cells 0 (some 4) [.bool true] 0) → ∀ Lt:LT,lk Lt 2=some (.ptr 0 0 0) → lk Lt 3=some (.ptr 1 0 0) → znm m s .ret ⟨Lt,hf,dfR⟩:=fun hf hG hP hI Lt h2 h3=>by
   obtain ⟨sh,f1,f2⟩:=z1v (g4.stays fun y hy _=>hG y hy) 60
   exact zjf (x:=⟨k,no,v,.nd x⟩) (q:=⟨k,no,v,x.tree,x.lv,x.top,sh,x.es,0,[],⟨0,true⟩,[]⟩) h2 h3 hP rfl hI (zkp f1 zm3) (by rw [hx];simp only [zg9,if_pos hk,hp,Option.map_some]) ⟨rfl,rfl,rfl,⟨rfl,rfl,rfl,rfl,rfl,rfl,rfl⟩,f2,fun h=>(h rfl).elim⟩
  have n0:(h4.length:Nat)≠0:=by omega
  have n1:(h4.length:Nat)≠1:=by omega
  have eX:=zaf h4 (AB.cells 0 (some 296) [i64 0,i64 0,.bool false,.lst 0 [] true] 0) (AB.cells 0 (some 296) (putAt [i64 0,i64 0,.bool false,.lst 0 [] true] 0 [i64 x.tree,i64 x.lv,.bool x.top,L]) 0)
  have eP:=gs (w:=AB.cells 0 (some 296) (putAt [i64 0,i64 0,.bool false,.lst 0 [] true] 0 [i64 x.tree,i64 x.lv,.bool x.top,L]) 0) (za8 (x:=AB.cells 0 (some 296) [i64 0,i64 0,.bool false,.lst 0 [] true] 0) e0) n0
  have eJ:=gs (w:=AB.cells 0 (some 296) (putAt [i64 0,i64 0,.bool false,.lst 0 [] true] 0 [i64 x.tree,i64 x.lv,.bool x.top,L]) 0) (za8 (x:=AB.cells 0 (some 296) [i64 0,i64 0,.bool false,.lst 0 [] true] 0) eI) n1
  conv=>whnf
  refine ldI eX ?_
  conv=>whnf
  refine ldI eX ?_
  conv=>whnf
  refine ldI eX ?_
  conv=>whnf
  refine ldI eX ?_
  conv=>whnf
  refine stJ eP ?_
  conv=>whnf
  refine ⟨?_,?_⟩
  ·repeat' (conv=>whnf);first | exact ldI (gs eX n0.symm) rfl | refine ⟨?_,?_⟩
  conv=>whnf
  refine stJ (ge eP) ?_
  conv=>whnf
  refine ⟨?_,?_⟩
  ·repeat' (conv=>whnf);first | exact ldI (gs (gs eX n0.symm) n0.symm) rfl | refine ⟨?_,?_⟩
  conv=>whnf
  refine stJ (ge (ge eP)) ?_
  conv=>whnf
  refine ⟨?_,?_⟩
  ·repeat' (conv=>whnf);first | exact ldI (gs (gs (gs eX n0.symm) n0.symm) n0.symm) rfl | refine ⟨?_,?_⟩
  conv=>whnf
  refine stI (ge (ge (ge eP))) g1.1 (by rfl) (by rfl) (by rfl) ?_
  conv=>whnf
  refine ldI (ge (ge (ge (ge eP)))) ?_
  conv=>whnf
  refine stI (xs:=[i64 k,i64 no,i64 v,i64 x.tree,i64 x.lv,.bool x.top,L,i64 0,.str [],.lst 0 [] true]) (ge (ge (ge (ge eP)))) (zmr g1.2 rfl) (by rfl) (by rfl) (by rfl) ?_
  conv=>whnf
  refine stJ (gs (gs (gs (gs (gs eJ (by decide)) (by decide)) (by decide)) (by decide)) (by decide)) ?_
  refine fin _ (fun y hy=>?_) (gs (ge (ge (ge (ge (ge eP))))) (by decide)) (ge (gs (gs (gs (gs (gs eJ (by decide)) (by decide)) (by decide)) (by decide)) (by decide))) _ rfl rfl
  have y1:=gG y hy
  have y2:=lG y hy
  rw [List.getElem?_set_ne (by omega),List.getElem?_set_ne (by omega),List.getElem?_set_ne (by omega),List.getElem?_set_ne (by omega),List.getElem?_set_ne (by omega),List.getElem?_set_ne (by omega),List.getElem?_set_ne (by omega),List.getElem?_append_left y2]
set_option maxRecDepth 10000 in
theorem ztq (hn:6 ≤ m) {h3:zaa}{k no v:Nat}{t:Str}(a:RS h3 (zjh k no v) t) (hk:k=3) (hx:ze1 s=(zg9 k t).map fun b=>⟨k,no,v,b⟩) :
  OkR Tryz.prog (C m) cfg0.inl KK 61 6 (ze3 c206) ⟨[(2,.ptr 0 0 0),(3,.ptr 1 0 0),(4,.ptr 2 0 0)],h3,dfR⟩ (znm m s):=by
 refine cutS (by decide) rfl ?_
 conv=>whnf
 refine ldI a.p ?_
 obtain ⟨r4,h4,eB,sB⟩:=(by rw [hk];exact z03 (n:=m) (by omega) a.r:∃ r h,C m 231 [.ptr 2 0 0,i64 (k:Nat)] h3=some (r,h) ∧ zge (zdr t) (zs5 h3 2) (fun h=>Keep h3 h [2]) r h)
 have l3:=a.r.lt
 conv=>whnf
 cases hp:zdr t with
 | none =>
  rw [hp] at sB
  obtain ⟨rfl,k4⟩:=sB
  refine clP eB ?_
  exact zdm (by rw [hx];simp only [zg9,if_neg (show ¬(k=1 ∨ k=2) by omega),if_pos hk,hp,Option.map_none]) rfl rfl (k4.get a.p (by simp)) rfl (k4.get a.i (by simp))
 | some x =>
  obtain ⟨x,u⟩:=x
  rw [hp] at sB
  obtain ⟨rfl,r4,k4⟩:=sB
  have l4:=k4.1
  have e0:=k4.get a.p (by simp)
  have eI:=k4.get a.i (by simp)
  have l0:=zab e0
  have l1:=zab eI
  refine clI eB ?_
  conv=>whnf
  refine stI (xs:=[i64 x.1,.str x.2]) (zad _ _) (zew (by simp only [List.all_cons,List.all_nil, Bool.and_true];rfl)) (by rfl) (by rfl) (by rfl) ?_
  have fin:∀ hf:zaa,hf[0]?=some (.cells 0 (some 79) [i64 k,i64 no,i64 v,i64 0,i64 0,.bool false,.lst 0 [] true,i64 x.1,.str x.2,.lst 0 [] true] 0) → hf[1]?=some (.cells 0 (some 4) [.bool true] 0) → ∀ Lt:LT,lk Lt 2=some (.ptr 0 0 0) → lk Lt 3=some (.ptr 1 0 0) → znm m s .ret ⟨Lt,hf,dfR⟩:=fun hf hP hI Lt h2 h3=>by
   exact zjf (x:=⟨k,no,v,.pc x⟩) (q:=⟨k,no,v,0,0,false,⟨0,true⟩,[],x.1,x.2,⟨0,true⟩,[]⟩) h2 h3 hP rfl hI (zkp zm3 zm3) (by rw [hx];simp only [zg9,if_neg (show ¬(k=1 ∨ k=2) by omega),if_pos hk,hp,Option.map_some]) ⟨rfl,rfl,rfl,⟨rfl,rfl,rfl,rfl,rfl,rfl,rfl⟩,fun h=>(h rfl).elim,fun h=>(h rfl).elim⟩
  have n0:(h4.length:Nat)≠0:=by omega
  have n1:(h4.length:Nat)≠1:=by omega
  have eX:=zaf h4 (AB.cells 0 (some 292) [i64 0,.str []] 0) (AB.cells 0 (some 292) (putAt [i64 0,.str []] 0 [i64 x.1,.str x.2]) 0)
  have eP:=gs (w:=AB.cells 0 (some 292) (putAt [i64 0,.str []] 0 [i64 x.1,.str x.2]) 0) (za8 (x:=AB.cells 0 (some 292) [i64 0,.str []] 0) e0) n0
  have eJ:=gs (w:=AB.cells 0 (some 292) (putAt [i64 0,.str []] 0 [i64 x.1,.str x.2]) 0) (za8 (x:=AB.cells 0 (some 292) [i64 0,.str []] 0) eI) n1
  conv=>whnf
  refine ldI eX ?_
  conv=>whnf
  refine ldI eX ?_
  conv=>whnf
  refine stJ eP ?_
  conv=>whnf
  refine ⟨?_,?_⟩
  ·repeat' (conv=>whnf);first | exact ldI (gs eX n0.symm) rfl | refine ⟨?_,?_⟩
  conv=>whnf
  refine stJ (ge eP) ?_
  conv=>whnf
  refine ldI (ge (ge eP)) ?_
  conv=>whnf
  refine stI (xs:=[i64 k,i64 no,i64 v,i64 0,i64 0,.bool false,.lst 0 [] true,i64 x.1,.str x.2,.lst 0 [] true]) (ge (ge eP)) (zmr rfl rfl) (by rfl) (by rfl) (by rfl) ?_
  conv=>whnf
  refine stJ (gs (gs (gs eJ (by decide)) (by decide)) (by decide)) ?_
  exact fin _ (gs (ge (ge (ge eP))) (by decide)) (ge (gs (gs (gs eJ (by decide)) (by decide)) (by decide))) _ rfl rfl
set_option maxRecDepth 10000 in
theorem zwe (hn:6 ≤ m) {h3:zaa}{k no v:Nat}{t:Str}(a:RS h3 (zjh k no v) t) (hk:¬(k=1 ∨ k=2)) (hk3:k≠3) (hx:ze1 s=(zg9 k t).map fun b=>⟨k,no,v,b⟩) :
  OkR Tryz.prog (C m) cfg0.inl KK 61 6 (ze3 c206) ⟨[(2,.ptr 0 0 0),(3,.ptr 1 0 0),(4,.ptr 2 0 0)],h3,dfR⟩ (znm m s):=by
 refine cutS (by decide) rfl ?_
 conv=>whnf
 refine ldI a.p ?_
 obtain ⟨r4,h4,eB,sB⟩:=z40 (n:=m) (by omega) a.r (k:Int) (by omega) (by omega) (by omega)
 have l3:=a.r.lt
 conv=>whnf
 cases hp:zhx t with
 | none =>
  rw [hp] at sB
  obtain ⟨rfl,k4⟩:=sB
  refine clP eB ?_
  exact zdm (by rw [hx];simp only [zg9,if_neg hk,if_neg hk3,hp,Option.map_none]) rfl rfl (k4.get a.p (by simp)) rfl (k4.get a.i (by simp))
 | some x =>
  obtain ⟨x,u⟩:=x
  rw [hp] at sB
  obtain ⟨Y,LL,ts,G,I,rfl,hts,r4,lv,k4,gG,gI⟩:=sB
  have l4:=k4.1
  have g1:=lv.buf.one
  have e0:=k4.get a.p (by simp)
  have eI:=k4.get a.i (by simp)
  have l0:=zab e0
  have l1:=zab eI
  refine clI eB ?_
  conv=>whnf
  refine stI (xs:=[i64 x.1,LL]) (zad _ _) (zew (by simp only [List.all_cons,List.all_nil,g1.2,Bool.and_true];rfl)) (by rfl) (by rfl) (by rfl) ?_
  have fin:∀ hf:zaa,(∀ y,h3.length ≤ y → y<h4.length → hf[y]?=h4[y]?) → hf[0]?=some (.cells 0 (some 79) [i64 k,i64 no,i64 v,i64 0,i64 0,.bool false,.lst 0 [] true,i64 x.1,.str [],LL] 0) → hf[1]?=some (.cells 0 (some 4) [.bool true] 0) → ∀ Lt:LT,lk Lt 2=some (.ptr 0 0 0) → lk Lt 3=some (.ptr 1 0 0) → znm m s .ret ⟨Lt,hf,dfR⟩:=fun hf hE hP hI Lt h2 h3=>by
   obtain ⟨sh,fs,f1,f2,f3⟩:=z1u (lv.stays' gG gI hE) 59
   rw [← hts] at f3
   exact zjf (x:=⟨k,no,v,.ls x⟩) (q:=⟨k,no,v,0,0,false,⟨0,true⟩,[],x.1,[],sh,fs⟩) h2 h3 hP rfl hI (zkp zm3 f1) (by rw [hx];simp only [zg9,if_neg hk,if_neg hk3,hp,Option.map_some]) ⟨rfl,rfl,rfl,⟨rfl,rfl,rfl,rfl,rfl,rfl,f3⟩,fun h=>(h rfl).elim,f2⟩
  have n0:(h4.length:Nat)≠0:=by omega
  have n1:(h4.length:Nat)≠1:=by omega
  have eX:=zaf h4 (AB.cells 0 (some 294) [i64 0,.lst 0 [] true] 0) (AB.cells 0 (some 294) (putAt [i64 0,.lst 0 [] true] 0 [i64 x.1,LL]) 0)
  have eP:=gs (w:=AB.cells 0 (some 294) (putAt [i64 0,.lst 0 [] true] 0 [i64 x.1,LL]) 0) (za8 (x:=AB.cells 0 (some 294) [i64 0,.lst 0 [] true] 0) e0) n0
  have eJ:=gs (w:=AB.cells 0 (some 294) (putAt [i64 0,.lst 0 [] true] 0 [i64 x.1,LL]) 0) (za8 (x:=AB.cells 0 (some 294) [i64 0,.lst 0 [] true] 0) eI) n1
  conv=>whnf
  refine ldI eX ?_
  conv=>whnf
  refine ldI eX ?_
  conv=>whnf
  refine stJ eP ?_
  conv=>whnf
  refine ⟨?_,?_⟩
  ·repeat' (conv=>whnf);first | exact ldI (gs eX n0.symm) rfl | refine ⟨?_,?_⟩
  conv=>whnf
  refine stI (ge eP) g1.1 (by rfl) (by rfl) (by rfl) ?_
  conv=>whnf
  refine ldI (ge (ge eP)) ?_
  conv=>whnf
  refine stI (xs:=[i64 k,i64 no,i64 v,i64 0,i64 0,.bool false,.lst 0 [] true,i64 x.1,.str [],LL]) (ge (ge eP)) (zmr rfl g1.2) (by rfl) (by rfl) (by rfl) ?_
  conv=>whnf
  refine stJ (gs (gs (gs eJ (by decide)) (by decide)) (by decide)) ?_
  refine fin _ (fun y y1 y2=>?_) (gs (ge (ge (ge eP))) (by decide)) (ge (gs (gs (gs eJ (by decide)) (by decide)) (by decide))) _ rfl rfl
  rw [List.getElem?_set_ne (by omega),List.getElem?_set_ne (by omega),List.getElem?_set_ne (by omega),List.getElem?_set_ne (by omega),List.getElem?_set_ne (by omega),List.getElem?_append_left y2]
theorem z4q {P:Program}{call:zbb}{inl:FuncId → Bool}{k n d:Nat}{rc:RC}{Q:Ex → LS → Prop}{s t:LS}(hs:LS.sub t s) (hw:OkR P call inl k n d rc t Q):OkR P call inl k n d rc s Q:=by
 intro c hc tm H
 obtain ⟨e1,e2,e3⟩:=hs
 have:=hw c hc tm (HasL.sub e1 H)
 rw [← e2,← e3] at this
 exact this
set_option maxRecDepth 10000 in
theorem z4c (hn:6 ≤ m) (hl:s.length=512):∃ r,(∀ h,C (m+1) 206 [.str s] h=some (r,h)) ∧ zzi s r:=by
 refine zfn F206 rfl rfl rfl rfl ?_
 conv=>whnf
 refine ⟨rfl,.fn 230 [.ptr 0 0 0,.ptr 1 0 0],rfl,?_⟩
 conv=>whnf
 refine ztf (s:=s) (c:=508) (by omega) ?_
 have a0:RS [AB.cells 0 (some 79) zbo 0,AB.cells 0 (some 4) [.bool false] 0,AB.cells 0 (some tRdr) [.str (s.take 508),i64 ((1:Nat):Int)] 0] zbo ((s.take 508).drop 1):=⟨rfl,rfl,s.take 508,1,rfl,by rw [List.length_take];omega,by rw [List.length_take];omega,rfl⟩
 conv=>whnf
 refine zdg (n:=m) (hp:=[AB.cells 0 (some 79) zbo 0,AB.cells 0 (some 4) [.bool false] 0,AB.cells 0 (some tRdr) [.str (s.take 508),i64 ((1:Nat):Int)] 0]) (by omega) a0.r 1 (by omega) (fun h1 qh1 rh1 kh1=>?_) (fun q=>?_)
 rotate_left
 ·exact zdm (by simp only [ze1,pnum,if_neg (Nat.not_le.2 q),Option.bind_none]) rfl rfl a0.p rfl a0.i
 have b1:=a0.next kh1 rh1
 have a1:=b1.set (cs':=putAt zbo (0+0) [i64 (zag (((s.take 508).drop 1).take 1))])
 conv=>whnf
 refine stJ b1.p ?_
 conv=>whnf
 refine zdg (n:=m) (hp:=_) (by omega) a1.r 4 (by omega) (fun h2 qh2 rh2 kh2=>?_) (fun q=>?_)
 rotate_left
 ·exact zdm (by simp only [ze1,pnum,if_pos qh1,Option.bind_some,if_neg (Nat.not_le.2 q),Option.bind_none]) rfl rfl a1.p rfl a1.i
 have b2:=a1.next kh2 rh2
 have a2:=b2.set (cs':=putAt (putAt zbo (0+0) [i64 (zag (((s.take 508).drop 1).take 1))]) (0+1) [i64 (zag ((((s.take 508).drop 1).drop 1).take 4))])
 conv=>whnf
 refine stJ b2.p ?_
 conv=>whnf
 refine zdg (n:=m) (hp:=_) (by omega) a2.r 6 (by omega) (fun h3 qh3 rh3 kh3=>?_) (fun q=>?_)
 rotate_left
 ·exact zdm (by simp only [ze1,pnum,if_pos qh1,if_pos qh2,Option.bind_some,if_neg (Nat.not_le.2 q),Option.bind_none]) rfl rfl a2.p rfl a2.i
 have b3:=a2.next kh3 rh3
 have a3:=b3.set (cs':=zjh (zag (((s.take 508).drop 1).take 1)) (zag ((((s.take 508).drop 1).drop 1).take 4)) (zag (((((s.take 508).drop 1).drop 1).drop 4).take 6)))
 have hx:ze1 s=(zg9 (zag (((s.take 508).drop 1).take 1)) (((((s.take 508).drop 1).drop 1).drop 4).drop 6)).map fun b=>⟨zag (((s.take 508).drop 1).take 1),zag ((((s.take 508).drop 1).drop 1).take 4),zag (((((s.take 508).drop 1).drop 1).drop 4).take 6),b⟩:=by
  simp only [ze1,pnum,if_pos qh1,if_pos qh2,if_pos qh3,Option.bind_some]
 have key:OkR Tryz.prog (C m) cfg0.inl KK 61 6 (ze3 c206) ⟨[(2,.ptr 0 0 0),(3,.ptr 1 0 0),(4,.ptr 2 0 0)],h3.set 0 (.cells 0 (some 79) (zjh (zag (((s.take 508).drop 1).take 1)) (zag ((((s.take 508).drop 1).drop 1).take 4)) (zag (((((s.take 508).drop 1).drop 1).drop 4).take 6))) 0),dfR⟩ (znm m s):=by
  by_cases hk:zag (((s.take 508).drop 1).take 1)=1 ∨ zag (((s.take 508).drop 1).take 1)=2
  ·exact zwd hn a3 hk hx
  ·by_cases hk3:zag (((s.take 508).drop 1).take 1)=3
   ·exact ztq hn a3 hk3 hx
   ·exact zwe hn a3 hk hk3 hx
 conv=>whnf
 refine stJ b3.p ?_
 refine z4q ?_ key
 exact ⟨⟨rfl,rfl,rfl⟩,rfl,rfl⟩
end
def Z512:List AV:=match c207 with
 | .seq (.ops (⟨_,_,.op (.alloc _ z)⟩::_)) _=>z
 | _=>[]
theorem zy6:Z512.length=512:=by kernel_rfl
theorem z06 {cs:List AV}{n:Nat}(h:cs.length=n):zjl true n cs 0=some (.agg cs):=by
 unfold zjl
 rw [if_pos rfl,if_pos (by omega),List.drop_zero,List.take_of_length_le (by omega)]
section
variable {n:Nat}{h:zaa}
set_option maxRecDepth 20000 in
theorem zl5 (hn:1 ≤ n) (s:Str) (hl:s.length=512):C n 207 [.str s] h=some (.ret (.agg (s.map u8)),h):=by
 obtain ⟨m,rfl⟩:=pre1 n
 refine zak F207 rfl rfl rfl rfl ?_
 have d1:([AB.cells 0 (some 282) Z512 0,AB.cells 0 (some 282) Z512 0]:zaa)[1]?=some (.cells 0 (some 282) Z512 0):=rfl
 conv=>whnf
 refine ⟨_,_,_,d1,⟨by rw [zy6];decide,by decide⟩,?_⟩
 refine slI (v:=.sl 1 1 0 0 512) rfl ?_
 conv=>whnf
 have ec:cpyR [AB.cells 0 (some 282) Z512 0,AB.cells 0 (some 282) Z512 0] 1 (.sl 1 1 0 0 512) (.str s)=some (.int .i64 512,some [AB.cells 0 (some 282) Z512 0,AB.cells 0 (some 282) (s.map u8) 0]):=by
  unfold cpyR
  simp only [zi5,lenA,hl,Nat.min_self]
  have hf:zav [AB.cells 0 (some 282) Z512 0,AB.cells 0 (some 282) Z512 0] 1 512 (.str s)=some (s.map u8):=by
   have:=zj1 [AB.cells 0 (some 282) Z512 0,AB.cells 0 (some 282) Z512 0] s
   rwa [hl] at this
  rw [hf]
  simp only
  rw [if_neg (by decide)]
  rw [d1]
  simp only
  rw [if_pos ⟨trivial,trivial,Nat.le_refl _,by rw [List.length_map,hl,zy6];decide,zel _⟩]
  have:putAt Z512 0 (s.map u8)=s.map u8:=by
   unfold putAt
   rw [List.take_zero,List.nil_append,List.drop_of_length_le (by rw [zy6,List.length_map,hl];decide),List.append_nil]
  rw [this];rfl
 refine ⟨_,ec,?_⟩
 conv=>whnf
 have e2:([AB.cells 0 (some 282) Z512 0,AB.cells 0 (some 282) (s.map u8) 0]:zaa)[1]?=some (.cells 0 (some 282) (s.map u8) 0):=rfl
 have e1:([AB.cells 0 (some 282) Z512 0,AB.cells 0 (some 282) (s.map u8) 0]:zaa)[0]?=some (.cells 0 (some 282) Z512 0):=rfl
 have hm:(s.map u8).length=512:=by rw [List.length_map];exact hl
 have hput:putAt Z512 0 (s.map u8)=s.map u8:=by
  unfold putAt
  rw [List.take_zero,List.nil_append,List.drop_of_length_le (by rw [zy6,hm];decide),List.append_nil]
 refine ldI e2 ?_
 refine zdd (z06 hm) ?_
 conv=>whnf
 refine stI (xs:=s.map u8) e1 (zew (zel _)) hm (by rw [hm,zy6];rfl) (by rfl) ?_
 refine ⟨rfl,[.agg (s.map u8)],?_,?_⟩
 ·have:=zbl (h:=([AB.cells 0 (some 282) Z512 0,AB.cells 0 (some 282) (s.map u8) 0]:zaa).set 0 (.cells 0 (some 282) (putAt Z512 0 (s.map u8)) 0)) (t:=282) (N:=512) (b:=0) (ver:=0) (el:=some 282) (cs:=s.map u8) (f:=0) (by kernel_rfl) hm (by rw [hput];rfl)
  show (match zbp Tryz.prog (([AB.cells 0 (some 282) Z512 0,AB.cells 0 (some 282) (s.map u8) 0]:zaa).set 0 (.cells 0 (some 282) (putAt Z512 0 (s.map u8)) 0)) 282 (.ptr 0 0 0) with | some v=>some [v] | none=>none)=_
  rw [this]
 ·exact zb6 (n:=63) (fun x hx=>by obtain ⟨c,_,rfl⟩:=List.mem_map.1 hx;exact zau) _
theorem z15 (a b:Str) (ha:a.length=512) (hb:b.length=512):eqA Tryz.prog 20 282 (.agg (a.map u8)) (.agg (b.map u8))=some (decide (a=b)):=by
 have e0:Tryz.prog.underlying 282=some (.array 512 5):=by kernel_rfl
 obtain ⟨d,e1,e2⟩ : ∃ d,ti Tryz.prog 5=some d ∧ (zba d.desc=false ∧ d.size=1):=by
  have:(ti Tryz.prog 5).map (fun d=>(zba d.desc,d.size))=some (false,1):=by kernel_rfl
  obtain ⟨d,h1,h2⟩:=Option.map_eq_some_iff.1 this
  simp only [Prod.mk.injEq] at h2
  exact ⟨d,h1,h2⟩
 unfold eqA
 simp only [e0,e1]
 unfold zoq
 rw [if_pos ⟨e2.1,e2.2,by rw [List.length_map,ha],by rw [List.length_map,hb]⟩]
 simp only
 have e2:∀ (x y:UInt8),eqA Tryz.prog 19 5 (.int .u8 x.toNat) (.int .u8 y.toNat)=some (((x.toNat:Nat):Int)==y.toNat):=fun x y=>by kernel_rfl
 exact zex (fun x y=>by rw [e2,zqr]) a b (by rw [ha,hb])
def z25 (s:Str):AV:=.tup [i64 (zag ((s.drop 1).take 1)),i64 (zag (((s.drop 1).drop 1).take 4)),i64 (zag ((((s.drop 1).drop 1).drop 4).take 6)),i64 0]
theorem zxr (hn:4 ≤ n) (s:Str) (hb:zgf s=true):C n 205 [.str s] h=some (.ret (z25 s),h):=by
 obtain ⟨m,rfl⟩:=pre1 n
 unfold zgf at hb
 simp only [Bool.and_eq_true,decide_eq_true_eq] at hb
 obtain ⟨hl,b0,b1,b2⟩:=hb
 refine zak F205 rfl rfl rfl rfl ?_
 have e0:s.getD 0 0=s[0]'(by omega):=by simp [hl]
 have e1:s.getD 1 0=s[1]'(by omega):=by simp [hl]
 rw [e0] at b0
 rw [e1] at b2
 have r0:RDs [AB.cells 0 (some tRdr) [.str s,i64 ((1:Nat):Int)] 0] 0 (s.drop 1):=⟨s,1,rfl,by omega,by omega,rfl⟩
 conv=>whnf
 refine brq (fun a=>absurd a (by omega)) (fun _=>?_)
 conv=>whnf
 refine strI (b:=s[0]'(by omega)) (by omega) (List.getElem?_eq_getElem (by omega)) ?_
 conv=>whnf
 refine brq (fun a=>absurd ((zvr _).2 b0) a) (fun _=>?_)
 conv=>whnf
 refine ztf (c:=508) (by omega) ?_
 conv=>whnf
 refine clI (zna (n:=m) (by omega) (s.take 508) (by rw [List.length_take];omega)) ?_
 conv=>whnf
 refine br (fun a=>absurd b1 (by simpa using a)) (fun _=>?_)
 conv=>whnf
 refine strI (b:=s[1]'(by omega)) (by omega) (List.getElem?_eq_getElem (by omega)) ?_
 conv=>whnf
 refine zI (z:=((s[1]'(by omega)).toNat:Int)) (by have:=(s[1]'(by omega)).toNat_lt;exact zae (by omega) (by omega)) ?_
 conv=>whnf
 refine clI (zco (by omega) _ _ _) ?_
 conv=>whnf
 refine brn (fun a=>by rw [b2] at a;cases a) (fun _=>?_)
 conv=>whnf
 refine zdg (n:=m) (hp:=[AB.cells 0 (some tRdr) [.str s,i64 ((1:Nat):Int)] 0]) (by omega) r0 1 (by omega) (fun h1 q1 r1 k1=>?_) (fun q=>?_)
 rotate_left
 ·exfalso;rw [List.length_drop] at q;omega
 conv=>whnf
 refine zdg (n:=m) (hp:=h1) (by omega) r1 4 (by omega) (fun h2 q2 r2 k2=>?_) (fun q=>?_)
 rotate_left
 ·exfalso;simp only [List.length_drop] at q;omega
 conv=>whnf
 refine zdg (n:=m) (hp:=h2) (by omega) r2 6 (by omega) (fun h3 q3 r3 k3=>?_) (fun q=>?_)
 rotate_left
 ·exfalso;simp only [List.length_drop] at q;omega
 conv=>whnf
 exact ⟨rfl,_,rfl,rfl⟩
end
end Go.Proofs
