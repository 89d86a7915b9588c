/- Texts put together: Pa, Pb, Gb, Wf, Wg, Gc, Wr0, Wr, Gd, Ge, Hb, Rn, Ro. -/
import Derived.Test.YtalaebjjleddaaaGreatFlt9
import Derived.Test.YtalaebjjleddaaaGreatFlt8
import Derived.Test.YtalaebjjleddaaaGreatFlt7
set_option linter.unusedVariables false
set_option linter.unusedSimpArgs false
namespace Go.Proofs
open Go Go.Abs
def cp:Str → Str → Nat
 | a::x,b::y=>if a=b then cp x y+1 else 0
 | _,_=>0
theorem cp_le:∀ (x y:Str),cp x y ≤ x.length ∧ cp x y ≤ y.length
 | [],_=>by simp [cp]
 | _::_,[]=>by simp [cp]
 | a::x,b::y=>by
  have:=cp_le x y
  simp only [cp,List.length_cons]
  split<;>omega
theorem z3k:∀ (x y:Str) (n:Nat) (hx:n<x.length) (hy:n<y.length),x[n]=y[n] → cp x y=n+cp (x.drop n) (y.drop n) → cp x y=n+1+cp (x.drop (n+1)) (y.drop (n+1)):=fun x y n hx hy he h=>by
 rw [h,List.drop_eq_getElem_cons hx,List.drop_eq_getElem_cons hy]
 simp [cp,he]
 omega
theorem z3j (x y:Str) (n:Nat) (hx:n<x.length) (hy:n<y.length) (he:x[n]≠y[n]) (h:cp x y=n+cp (x.drop n) (y.drop n)):cp x y=n:=by
 rw [h,List.drop_eq_getElem_cons hx,List.drop_eq_getElem_cons hy]
 simp [cp,he]
theorem cp_end (x y:Str) (n:Nat) (hn:x.length ≤ n ∨ y.length ≤ n) (h:cp x y=n+cp (x.drop n) (y.drop n)):cp x y=n:=by
 rw [h]
 rcases hn with hn | hn
 ·rw [List.drop_of_length_le hn];simp [cp]
 ·rw [List.drop_of_length_le hn]
  cases x.drop n<;>simp [cp]
section
variable {n:Nat}{h:zaa}
theorem u8_eq (a b:UInt8):(((a.toNat:Int))==((b.toNat:Int)))=decide (a=b):=zqi a b
theorem ztu (hn:1 ≤ n) (x y:Str) (hx:x.length<1099511627776) (hy:y.length<1099511627776):C n 281 [.str x,.str y] h=some (.ret (i64 (cp x y)),h):=by
 obtain ⟨m,rfl⟩:=pre1 n
 refine zak F281 rfl rfl rfl rfl ?_
 conv=>whnf
 refine za7 (by decide) rfl (α:=Nat) (fun k=>⟨[(0,.str x),(1,.str y),(5,i64 k)],[],[]⟩) (fun k=>(k ≤ x.length ∧ k ≤ y.length) ∧ cp x y=k+cp (x.drop k) (y.drop k)) (fun k=>x.length-k) 0 ⟨⟨rfl,rfl,rfl⟩,rfl,rfl⟩ (by simp) (by show x.length-0<KK;simp only [KK];omega) ?_
 rintro k ⟨⟨k1,k2⟩,k3⟩
 have hmin:(if ((y.length:Nat):Int)<((x.length:Nat):Int) then ((y.length:Nat):Int) else ((x.length:Nat):Int))=((min x.length y.length:Nat):Int):=by
  split<;>omega
 conv=>whnf
 refine ⟨_,hmin,?_⟩
 conv=>whnf
 refine brd (fun a=>?_) (fun a=>?_)
 ·have hkx:k<x.length:=by omega
  have hky:k<y.length:=by omega
  conv=>whnf
  refine strI (b:=x[k]) (by omega) (by rw [Int.toNat_natCast];exact List.getElem?_eq_getElem hkx) ?_
  conv=>whnf
  refine strI (b:=y[k]) (by omega) (by rw [Int.toNat_natCast];exact List.getElem?_eq_getElem hky) ?_
  have e:=u8_eq x[k] y[k]
  conv=>whnf
  refine br (fun b=>?_) (fun b=>?_)
  ·have b':x[k]=y[k]:=by simpa using e.symm.trans b
   conv=>whnf
   refine zI (z:=((k+1:Nat):Int)) (by rw [zad (by omega) (by omega)];rfl) ?_
   exact nxI (k+1) ⟨⟨hkx,hky⟩,z3k x y k hkx hky b' k3⟩ (by omega) ⟨⟨rfl,rfl,rfl⟩,rfl,rfl⟩
  ·have b':x[k]≠y[k]:=by simpa using e.symm.trans b
   conv=>whnf
   refine cutI (by decide) rfl (t:=⟨[(5,i64 k)],[],[]⟩) ⟨rfl,rfl,rfl⟩ ?_
   conv=>whnf
   exact retP rfl (zbw (by rw [z3j x y k hkx hky b' k3]))
 ·conv=>whnf
  refine cutI (by decide) rfl (t:=⟨[(5,i64 k)],[],[]⟩) ⟨rfl,rfl,rfl⟩ ?_
  conv=>whnf
  exact retP rfl (zbw (by rw [cp_end x y k (by omega) k3]))
def pre2 (p k:Str):Str:=p.take (cp p k)
def zdv (l:List Entry) (lv:Int):List Entry:=if 0<lv then l.drop 1 else l
def shared (l:List Entry) (lv:Int):Str:=((zdv l lv).drop 1).foldl (fun p e=>pre2 p e.key) ((zdv l lv).headD default).key
theorem zpm {m:Nat}(hm:1 ≤ m) (l:List Entry) (hl:l.length<1099511627776) (he:∀ e∈l,e.Ok) (p0:Str) (hp0:p0.length<1099511627776) (sz:Nat) (hz:l≠[] → sz=22) (c:Bool) {Q:Ex → LS → Prop}{s:LS}
  (hs:LS.sub ⟨[(5,.str p0),(17,.lst sz (l.map Entry.av) c),(18,i64 l.length),(19,i64 0)],[],[]⟩ s) (hE:∀ L hp,lk L 5=some (.str (l.foldl (fun p e=>pre2 p e.key) p0)) → Q (.exit 0) ⟨L,hp,[]⟩) :
  OkR Tryz.prog (C m) cfg0.inl KK 31 6 (.loop (c279.lp 0)) s Q:=by
 refine za7 (by decide) rfl (α:=Nat × Str × zaa) (fun x=>⟨[(5,.str x.2.1),(17,.lst sz (l.map Entry.av) c),(18,i64 l.length),(19,i64 x.1)],x.2.2,[]⟩)
  (fun x=>x.1 ≤ l.length ∧ x.2.1=(l.take x.1).foldl (fun p e=>pre2 p e.key) p0 ∧ x.2.1.length<1099511627776) (fun x=>l.length-x.1) (0,p0,[]) hs (by simpa using hp0) (by show l.length-0<KK;simp only [KK];omega) ?_
 rintro ⟨j,p,hp⟩ ⟨g1,g2,g3⟩
 simp only at g1 g2 g3
 conv=>whnf
 refine brd (fun b=>?_) (fun b=>?_)
 ·simp only at b
  have hj:j<l.length:=by omega
  have hst:pre2 p l[j].key=(l.take (j+1)).foldl (fun p e=>pre2 p e.key) p0:=by
   rw [List.take_succ_eq_append_getElem hj,List.foldl_append,← g2];rfl
  have hk:=he _ (List.getElem_mem hj)
  have hle:=(cp_le p l[j].key).1
  conv=>whnf
  refine ixL zbp hj hz ?_
  conv=>whnf
  refine stJ (zag _ _) ?_
  conv=>whnf
  refine ldI (zae _ _ _) ?_
  conv=>whnf
  refine clI (ztu (by omega) p l[j].key g3 hk.1) ?_
  conv=>whnf
  refine zu0 hle ?_
  conv=>whnf
  refine zJ j ?_
  refine nxI (j+1,pre2 p l[j].key,_) ⟨hj,hst,by simp only [pre2,List.length_take];omega⟩ (by simp only;omega) ⟨⟨rfl,rfl,rfl,rfl⟩,rfl,rfl⟩
 ·simp only at b
  have:j=l.length:=by omega
  subst this
  rw [List.take_length] at g2
  subst g2
  conv=>whnf
  exact hE _ _ rfl
theorem zwj {l:List Entry}(h:0<l.length):l[0]=l.headD default:=by
 cases l with
 | nil=>simp at h
 | cons a r=>rfl
theorem zu3 (hn:2 ≤ n) (l:List Entry) (hl:l.length<1099511627776) (he:∀ e∈l,e.Ok) (lv:Int) (hne:0<(zdv l lv).length) (sz:Nat) (hz:l≠[] → sz=22) (c:Bool) :
  C n 279 [.lst sz (l.map Entry.av) c,i64 lv] h=some (.ret (.str (shared l lv)),h):=by
 obtain ⟨m,rfl⟩:=pre1 n
 have go:∀ (t:List Entry) (c':Bool) (s':LS),t=zdv l lv → LS.sub ⟨[(0,.lst 22 (t.map Entry.av) c')],[],[]⟩ s' → OkR Tryz.prog (C m) cfg0.inl KK 31 6 (zew c279) s' (RetQ Tryz.prog [.tmp 4] fun v' h'=>frz h' 64 v'=some (.str (shared l lv))):=fun t c' s' ht hs'=>by
  have h0:0<t.length:=by rw [ht];exact hne
  have het:∀ e∈t,e.Ok:=fun e h=>he e (by
   subst ht
   unfold zdv at h
   split at h
   ·exact List.mem_of_mem_drop h
   ·exact h)
  have hlt:t.length ≤ l.length:=by subst ht;unfold zdv;split<;>simp
  have hsh:((t.drop 1).foldl (fun p e=>pre2 p e.key) t[0].key)=shared l lv:=by rw [zwj h0,ht];rfl
  refine cutI (by decide) rfl hs' ?_
  conv=>whnf
  refine ixL zbp (j:=0) h0 (fun _=>rfl) ?_
  conv=>whnf
  refine slI (sl_lo _ t (fun _=>rfl) c' 1 h0) ?_
  conv=>whnf
  refine zpm (by omega) (t.drop 1) (by simp;omega) (fun e h=>het e (List.mem_of_mem_drop h)) t[0].key (het _ (List.getElem_mem h0)).1 22 (fun _=>rfl) _ ⟨⟨rfl,rfl,lenI _ _,rfl⟩,rfl,rfl⟩ (fun L hp hL=>?_)
  refine cutI (by decide) rfl (t:=⟨[(5,.str (shared l lv))],hp,[]⟩) ⟨by rw [hsh] at hL;exact hL,rfl,rfl⟩ ?_
  conv=>whnf
  exact retP rfl (zht rfl)
 refine zak F279 rfl rfl rfl (zb7 zcm l rfl) ?_
 conv=>whnf
 refine brd (fun a=>?_) (fun a=>?_)
 ·have ht:l.drop 1=zdv l lv:=by unfold zdv;rw [if_pos a]
  have hl1:1 ≤ l.length:=by rw [← ht] at hne;simp at hne;omega
  conv=>whnf
  refine slI (sl_lo _ l hz c 1 hl1) ?_
  exact go (l.drop 1) _ _ ht ⟨rfl,rfl,rfl⟩
 ·have ht:l=zdv l lv:=by unfold zdv;rw [if_neg a]
  have hsz:sz=22:=hz (by intro e;subst e;rw [← ht] at hne;simp at hne)
  subst hsz
  exact go l c _ ht ⟨rfl,rfl,rfl⟩
theorem zku {l:List Entry}{lv:Int}(hv:zdf l lv=true):0<(zdv l lv).length:=by
 obtain ⟨h1,h2,h3,h4⟩:=valid_iff.1 hv
 unfold zdv
 split
 ·simp;omega
 ·cases l with
  | nil=>exact (h2 rfl).elim
  | cons=>simp
theorem zzf (p k:Str):(pre2 p k).length ≤ p.length:=by simp [pre2];omega
theorem zr2:∀ (l:List Entry) (p:Str),(l.foldl (fun p e=>pre2 p e.key) p).length ≤ p.length
 | [],p=>Nat.le_refl _
 | e::r,p=>Nat.le_trans (zr2 r _) (zzf p e.key)
end
theorem zun {l:List Entry}{lv:Int}(hv:zdf l lv=true):∀ e∈l,e.key.length ≤ 48:=fun e he=>by
 obtain ⟨h1,h2,h3,h4⟩:=valid_iff.1 hv
 obtain ⟨j,hj,rfl⟩:=List.getElem_of_mem he
 have:=h4 j hj
 rw [zir hj] at this
 by_cases e0:lv=0
 ·subst e0
  simp at this
  exact (zmu this.1).2
 ·simp [e0,zbq] at this
  omega
theorem zk3 {l:List Entry}{lv:Int}(hv:zdf l lv=true):(shared l lv).length ≤ 48:=by
 have h0:=zku hv
 refine Nat.le_trans (zr2 _ _) ?_
 rw [← zwj h0]
 have hm:(zdv l lv)[0]∈l:=by
  have:(zdv l lv)[0]∈zdv l lv:=List.getElem_mem h0
  unfold zdv at this ⊢
  split at this<;>rename_i h
  ·simp only [h,if_true];exact List.mem_of_mem_drop this
  ·simp only [h,if_false];exact this
 exact zun hv _ hm
section
variable {n:Nat}{h:zaa}
end
structure Page where
 kind:Int
 no:Int
 ver:Int
 tree:Int
 level:Int
 top:Bool
 esh:Sh
 entries:List Entry
 next:Int
 data:Str
 fsh:Sh
 freed:List Freed
def Page.cells (p:Page):List AV:=[i64 p.kind,i64 p.no,i64 p.ver,i64 p.tree,i64 p.level,.bool p.top,.lst p.esh.sz (p.entries.map Entry.av) p.esh.c,i64 p.next,.str p.data,.lst p.fsh.sz (p.freed.map Freed.av) p.fsh.c]
def Page.av (p:Page):AV:=.agg p.cells
structure Page.Ok (p:Page):Prop where
 esz:p.entries≠[] → p.esh.sz=22
 fsz:p.freed≠[] → p.fsh.sz=2
 elen:p.entries.length<1099511627776
 flen:p.freed.length<1048576
 dlen:p.data.length<1099511627776
 ent:∀ e∈p.entries,e.Ok
 fr:∀ f∈p.freed,f.Ok ∧ f.pages.length<9223372036854775808
theorem zd6 (f:Freed):f.av.pureB=true:=by
 show zan [i64 f.ver,.lst f.sh.sz (f.pages.map i64) f.sh.c]=true
 simp [zan,AV.pureB,zc6 (f:=i64) (fun _=>rfl)]
theorem zcs (p:Page):p.av.pureB=true:=by
 show zan p.cells=true
 simp [Page.cells,zan,AV.pureB,zc6 zcm,zc6 zd6]
theorem zw3 (a b:Bool):eqA Tryz.prog 20 4 (.bool a) (.bool b)=some (a==b):=by kernel_rfl
def zh5 (n:Int):Bool:=n==0||za6 n
def Page.plain (p:Page):Bool:=p.tree==0&&(p.level==0&&(!p.top&&(p.entries.length:Int)==0))
def pgAt (l:List Int) (k:Nat):Bool:=za6 (l.getD k 0)&&(k==0||decide (l.getD (k-1) 0<l.getD k 0))
def zkj (l:List Int):Bool:=(List.range l.length).all (pgAt l)
instance:Inhabited Freed:=⟨⟨0,⟨0,true⟩,[]⟩⟩
def frAt (l:List Freed) (k:Nat):Bool:=(za3 (l.getD k default).ver 0 1099511627776&&(((l.getD k default).pages.length:Int) != 0&&(k==0||decide ((l.getD (k-1) default).ver<(l.getD k default).ver))))&&zkj (l.getD k default).pages
def zek (l:List Freed):Bool:=(List.range l.length).all (frAt l)
def zbo (l:List Freed):Int:=6+(l.map fun f=>8+4*(f.pages.length:Int)).sum
def Page.check (p:Page):Bool:=za6 p.no&&(za3 p.ver 0 1099511627776&&(if p.kind=1 ∨ p.kind=2 then za3 p.tree 0 255&&(((p.kind==1)==(p.level==0))&&(fits p.entries p.level&&(p.next==0&&(p.data==[]&&(p.freed.length:Int)==0))))
 else if p.kind=3 then p.plain&&(zh5 p.next&&(za3 p.data.length 1 490&&(p.freed.length:Int)==0)) else if p.kind=4 then p.plain&&(zh5 p.next&&(p.data==[]&&(zek p.freed&&decide (zbo p.freed ≤ 496)))) else false))
theorem zqz {p:Nat → Bool}{n j:Nat}(hj:j<n) (hb:p j=false):(List.range n).all p=false:=by
 rw [List.all_eq_false];exact ⟨j,List.mem_range.2 hj,by simp [hb]⟩
theorem zsf {p:Nat → Bool}{n:Nat}(h:∀ i,i<n → p i=true):(List.range n).all p=true:=by
 rw [List.all_eq_true];exact fun i hi=>h i (List.mem_range.1 hi)
theorem zse {p:Nat → Bool}{j:Nat}(h:∀ i,i<j → p i=true) (hj:p j=true):∀ i,i<j+1 → p i=true:=fun i hi=>by
 by_cases e:i=j
 ·rw [e];exact hj
 ·exact h i (by omega)
theorem zii {l:List Int}{j:Nat}(hj:j<l.length):pgAt l j=(za6 l[j]&&(decide (j=0)||decide (l[j-1]<l[j]))):=by
 have h1:l.getD j 0=l[j]:=by simp [hj]
 have h2:l.getD (j-1) 0=l[j-1]:=by simp [show j-1<l.length by omega]
 have h3:(j==0)=decide (j=0):=by by_cases e:j=0<;>simp [e]
 unfold pgAt;rw [h1,h2,h3]
theorem zmt {l:List Freed}{j:Nat}(hj:j<l.length):frAt l j=((za3 l[j].ver 0 1099511627776&&((l[j].pages.length:Int) != 0&&(decide (j=0)||decide (l[j-1].ver<l[j].ver))))&&zkj l[j].pages):=by
 have h1:l.getD j default=l[j]:=by simp [hj]
 have h2:l.getD (j-1) default=l[j-1]:=by simp [show j-1<l.length by omega]
 have h3:(j==0)=decide (j=0):=by by_cases e:j=0<;>simp [e]
 unfold frAt;rw [h1,h2,h3]
section
variable {n:Nat}{h:zaa}
theorem zzg (hn:1 ≤ n) (p:Page):C n 193 [p.av] h=some (.ret (.bool p.plain),h):=by
 obtain ⟨m,rfl⟩:=pre1 n
 refine zak F193 rfl rfl rfl (by simp [zan,zcs]) ?_
 repeat' (conv=>whnf);first
  | refine retP rfl (zas ?_)
  | refine brd (fun _=>?_) (fun _=>?_)
  | refine bre (fun _=>?_) (fun _=>?_)
  | refine brq (fun _=>?_) (fun _=>?_)
  | refine brn (fun _=>?_) (fun _=>?_)
  | refine br (fun _=>?_) (fun _=>?_)
  | refine ldI (by rfl) ?_
  | refine ldI (zae _ _ _) ?_
  | refine ldI (zag _ _) ?_
  | refine stJ (by rfl) ?_
  | refine stJ (zag _ _) ?_
  | refine cutS (by decide) rfl ?_
 all_goals simp_all [Page.plain]
theorem zv7 (hn:3 ≤ n) (k:Int):C n 194 [i64 k] h=some (.ret (.bool (zh5 k)),h):=by
 obtain ⟨m,rfl⟩:=pre1 n
 refine zak F194 rfl rfl rfl rfl ?_
 repeat' (conv=>whnf);first
  | refine clI (zdk (by omega) _) ?_
  | refine retP rfl (zas ?_)
  | refine brd (fun _=>?_) (fun _=>?_)
  | refine bre (fun _=>?_) (fun _=>?_)
  | refine brq (fun _=>?_) (fun _=>?_)
  | refine brn (fun _=>?_) (fun _=>?_)
  | refine br (fun _=>?_) (fun _=>?_)
  | refine ldI (by rfl) ?_
  | refine ldI (zae _ _ _) ?_
  | refine ldI (zag _ _) ?_
  | refine stJ (by rfl) ?_
  | refine stJ (zag _ _) ?_
  | refine cutS (by decide) rfl ?_
 all_goals simp_all [zh5]
theorem zh4:∀ (l:List Freed),(∀ f∈l,f.pages.length<1048576) → 6 ≤ zbo l ∧ zbo l ≤ 6+4194312*l.length
 | [],_=>by simp [zbo]
 | f::r,hf=>by
  have h1:=zh4 r fun g hg=>hf g (List.mem_cons_of_mem _ hg)
  have h2:=hf f (List.mem_cons_self ..)
  simp only [zbo,List.map_cons,List.sum_cons,List.length_cons] at h1 ⊢
  omega
theorem zp4 (l:List Freed) {j:Nat}(hj:j<l.length):zbo (l.take (j+1))=zbo (l.take j)+(8+4*(l[j].pages.length:Int)):=by
 rw [List.take_succ_eq_append_getElem hj]
 unfold zbo
 rw [List.map_append,List.sum_append]
 simp only [List.map_cons,List.map_nil,List.sum_cons,List.sum_nil]
 omega
theorem zv6 (hn:1 ≤ n) (l:List Freed) (hl:l.length<1048576) (hf:∀ f∈l,f.Ok ∧ f.pages.length<1048576) (sz:Nat) (hz:l≠[] → sz=2) (c:Bool):C n 196 [.lst sz (l.map Freed.av) c] h=some (.ret (i64 (zbo l)),h):=by
 obtain ⟨m,rfl⟩:=pre1 n
 refine zak F196 rfl rfl rfl (zb7 zd6 l rfl) ?_
 conv=>whnf
 refine za7 (by decide) rfl (α:=Nat × zaa) (fun x=>⟨[(3,i64 (zbo (l.take x.1))),(6,.lst sz (l.map Freed.av) c),(7,i64 l.length),(8,i64 x.1)],x.2,[]⟩) (fun x=>x.1 ≤ l.length) (fun x=>l.length-x.1) (0,[]) ⟨⟨rfl,rfl,lenI _ _,rfl⟩,rfl,rfl⟩ (Nat.zero_le _) (by show l.length-0<KK;simp only [KK];omega) ?_
 rintro ⟨j,hp⟩ g1
 simp only at g1
 conv=>whnf
 refine brd (fun a=>?_) (fun a=>?_)
 ·have hj:j<l.length:=by simp only at a;omega
  obtain ⟨k1,k2⟩:=hf _ (List.getElem_mem hj)
  have hb:=zh4 (l.take j) fun f h=>(hf f (List.mem_of_mem_take h)).2
  rw [List.length_take] at hb
  have el:((l[j].pages.map i64).length:Int)=(l[j].pages.length:Int):=by rw [List.length_map]
  conv=>whnf
  refine ixL zbz hj hz ?_
  conv=>whnf
  refine stJ (zag _ _) ?_
  conv=>whnf
  refine ldI (zae _ _ _) ?_
  conv=>whnf
  refine zI (z:=4*(l[j].pages.length:Int)) (by rw [el,zad (by omega) (by omega)]) ?_
  conv=>whnf
  refine zI (z:=8+4*(l[j].pages.length:Int)) (zad (by omega) (by omega)) ?_
  conv=>whnf
  refine zI (z:=zbo (l.take (j+1))) (by rw [zp4 l hj,zad (by simp only;omega) (by simp only;omega)]) ?_
  conv=>whnf
  refine zJ j ?_
  exact nxI (j+1,_) hj (by simp only;omega) ⟨⟨rfl,rfl,rfl,rfl⟩,rfl,rfl⟩
 ·have hj:j=l.length:=by simp only at a;omega
  subst hj
  conv=>whnf
  refine cutI (by decide) rfl (t:=⟨[(3,i64 (zbo l))],hp,[]⟩) ⟨by rw [List.take_length];rfl,rfl,rfl⟩ ?_
  conv=>whnf
  exact retP rfl (zbw rfl)
theorem z05 {l:List Int}(h:zkj l=true):∀ i (hi:i<l.length),(2:Int)+i ≤ l[i] ∧ l[i] ≤ 4095
 | 0,hi=>by
  have:=List.all_eq_true.1 h 0 (List.mem_range.2 hi)
  rw [zii hi] at this
  simp [za6,za3] at this
  omega
 | i+1,hi=>by
  have h0:=z05 h i (by omega)
  have:=List.all_eq_true.1 h (i+1) (List.mem_range.2 hi)
  rw [zii hi] at this
  simp [za6,za3] at this
  omega
theorem zvp {l:List Int}(h:zkj l=true):l.length ≤ 4094:=by
 rcases Nat.eq_zero_or_pos l.length with e | e
 ·omega
 ·have:=z05 h (l.length-1) (by omega)
  omega
theorem zws {l:List Freed}(h:zek l=true) (hf:∀ f∈l,f.Ok ∧ f.pages.length<9223372036854775808):∀ f∈l,f.Ok ∧ f.pages.length<1048576:=fun f hm=>by
 obtain ⟨i,hi,rfl⟩:=List.getElem_of_mem hm
 have:=List.all_eq_true.1 h i (List.mem_range.2 hi)
 rw [zmt hi,Bool.and_eq_true] at this
 have:=zvp this.2
 exact ⟨(hf _ hm).1,by omega⟩
theorem zzj {m:Nat}(hm:2 ≤ m) (l:List Int) (hl:l.length<9223372036854775808) (sz:Nat) (hz:l≠[] → sz=1) (c:Bool) (f:Freed) (hf:f=⟨f.ver,⟨sz,c⟩,l⟩) {hp:zaa}{E:Nat}(hE0:hp[E]?=some (.cells 0 (some 145) f.cells 0)) {Q:Ex → LS → Prop}{s:LS}(v0 v7 v8 v9:AV)
  (hs:LS.sub ⟨[(0,v0),(4,.ptr E 0 0),(7,v7),(8,v8),(9,v9),(40,.lst sz (l.map i64) c),(41,i64 l.length),(42,i64 0)],hp,[]⟩ s)
  (hE:zkj l=true → ∀ L,subL [(0,v0),(7,v7),(8,v8),(9,v9)] L → Q (.exit 2) ⟨L,hp,[]⟩) (hR:zkj l=false → ∀ L,lk L 2=some (.bool false) → Q .ret ⟨L,hp,[]⟩) :
  OkR Tryz.prog (C m) cfg0.inl KK 66 7 (.loop (c195.lp 1)) s Q:=by
 refine za7 (by decide) rfl (α:=Nat) (fun x=>⟨[(0,v0),(4,.ptr E 0 0),(7,v7),(8,v8),(9,v9),(40,.lst sz (l.map i64) c),(41,i64 l.length),(42,i64 x)],hp,[]⟩) (fun x=>x ≤ l.length ∧ ∀ i,i<x → pgAt l i=true) (fun x=>l.length-x) 0 hs ⟨Nat.zero_le _,fun i hi=>absurd hi (Nat.not_lt_zero _)⟩ (by show l.length-0<KK;simp only [KK];omega) ?_
 rintro j ⟨g1,g2⟩
 have e0:f.cells=[i64 f.ver,.lst sz (l.map i64) c]:=by rw [hf];rfl
 rw [e0] at hE0
 conv=>whnf
 refine brd (fun a=>?_) (fun a=>?_)
 ·have hj:j<l.length:=by omega
  repeat' (conv=>whnf);first
   | refine ixL (l:=l) (j:=j) zcv hj hz ?_
   | refine ixL (l:=l) (j:=j-1) zcv (by omega) hz ?_
   | refine clI (zdk (by omega) _) ?_
   | refine ldI hE0 ?_
   | refine zI (z:=((j-1:Nat):Int)) (by rw [zad (by omega) (by omega)];omega) ?_
   | refine zJ j ?_
   | refine hR (zqz hj ?_) _ rfl
   | refine nxI (j+1) ⟨hj,zse g2 ?_⟩ (by omega) ⟨⟨rfl,rfl,rfl,rfl,rfl,rfl,rfl,rfl⟩,rfl,rfl⟩
   | (exfalso;omega)
   | refine brd (fun _=>?_) (fun _=>?_)
   | refine bre (fun _=>?_) (fun _=>?_)
   | refine brq (fun _=>?_) (fun _=>?_)
   | refine brn (fun _=>?_) (fun _=>?_)
   | refine br (fun _=>?_) (fun _=>?_)
   | refine ldI (by rfl) ?_
   | refine ldI (zae _ _ _) ?_
   | refine ldI (zag _ _) ?_
   | refine stJ (by rfl) ?_
   | refine stJ (zag _ _) ?_
   | refine zI (zad (by omega) (by omega)) ?_
   | refine cutS (by decide) rfl ?_
  all_goals clear hf e0 hE0 hE hR hs
  all_goals rw [zii hj]
  all_goals by_cases hj0:j=0
  all_goals simp_all
  all_goals omega
 ·have hj:j=l.length:=by omega
  subst hj
  conv=>whnf
  exact hE (zsf g2) _ ⟨rfl,rfl,rfl,rfl⟩
theorem zz8 (hn:3 ≤ n) (l:List Freed) (hl:l.length<1048576) (hf:∀ f∈l,f.Ok ∧ f.pages.length<9223372036854775808) (sz:Nat) (hz:l≠[] → sz=2) (c:Bool):C n 195 [.lst sz (l.map Freed.av) c] h=some (.ret (.bool (zek l)),h):=by
 obtain ⟨m,rfl⟩:=pre1 n
 refine zak F195 rfl rfl rfl (zb7 zd6 l rfl) ?_
 conv=>whnf
 refine za7 (by decide) rfl (α:=Nat × zaa) (fun x=>⟨[(0,.lst sz (l.map Freed.av) c),(7,.lst sz (l.map Freed.av) c),(8,i64 l.length),(9,i64 x.1)],x.2,[]⟩) (fun x=>x.1 ≤ l.length ∧ ∀ i,i<x.1 → frAt l i=true) (fun x=>l.length-x.1) (0,[]) ⟨⟨rfl,rfl,lenI _ _,rfl⟩,rfl,rfl⟩ ⟨Nat.zero_le _,fun i hi=>absurd hi (Nat.not_lt_zero _)⟩ (by show l.length-0<KK;simp only [KK];omega) ?_
 rintro ⟨j,hp⟩ ⟨g1,g2⟩
 simp only at g1 g2
 conv=>whnf
 refine brd (fun a=>?_) (fun a=>?_)
 ·have hj:j<l.length:=by simp only at a;omega
  obtain ⟨k1,k2⟩:=hf _ (List.getElem_mem hj)
  have el:((l[j].pages.map i64).length:Int)=(l[j].pages.length:Int):=by rw [List.length_map]
  conv=>whnf
  refine ixL zbz hj hz ?_
  conv=>whnf
  refine stJ (zag _ _) ?_
  have good:∀ {Q:Ex → LS → Prop}(s':LS),LS.sub ⟨[(0,.lst sz (l.map Freed.av) c),(4,.ptr hp.length 0 0),(7,.lst sz (l.map Freed.av) c),(8,i64 l.length),(9,i64 j)],((hp++[AB.cells 0 (some 145) [i64 0,.lst 0 [] true] 0]).set hp.length (.cells 0 (some 145) l[j].cells 0)),[]⟩ s' →
    (zkj l[j].pages=true → ∀ L,subL [(0,.lst sz (l.map Freed.av) c),(7,.lst sz (l.map Freed.av) c),(8,i64 l.length),(9,i64 j)] L → Q .norm ⟨L,((hp++[AB.cells 0 (some 145) [i64 0,.lst 0 [] true] 0]).set hp.length (.cells 0 (some 145) l[j].cells 0)),[]⟩) → (zkj l[j].pages=false → ∀ L,lk L 2=some (.bool false) → Q .ret ⟨L,((hp++[AB.cells 0 (some 145) [i64 0,.lst 0 [] true] 0]).set hp.length (.cells 0 (some 145) l[j].cells 0)),[]⟩) →
    OkR Tryz.prog (C m) cfg0.inl KK 66 7 (zew (c195.lp 0)) s' Q:=by
   intro Q s' hs' hT hF
   refine cutI (by decide) rfl hs' ?_
   conv=>whnf
   refine ldI (zae _ _ _) ?_
   conv=>whnf
   refine zzj (by omega) l[j].pages k2 l[j].sh.sz k1 l[j].sh.c l[j] rfl (zae _ _ _) (.lst sz (l.map Freed.av) c) (.lst sz (l.map Freed.av) c) (i64 l.length) (i64 j) ⟨⟨rfl,rfl,rfl,rfl,rfl,rfl,lenI i64 _,rfl⟩,rfl,rfl⟩ (fun q L hL=>?_) (fun q L hk=>?_)
   ·conv=>whnf
    exact hT q L hL
   ·conv=>whnf
    exact hF q L hk
  repeat' (conv=>whnf);first
   | refine ldI (zae _ _ _) ?_
   | refine ixL (l:=l) (j:=j-1) zbz (by omega) hz ?_
   | refine clI (zcc (by omega) _ _ _) ?_
   | refine zI (z:=((j-1:Nat):Int)) (by rw [zad (by omega) (by omega)];omega) ?_
   | refine zJ j ?_
   | refine good _ ⟨⟨rfl,rfl,rfl,rfl,rfl⟩,rfl,rfl⟩ (fun _ _ _=>?_) (fun _ _ _=>?_)
   | refine cutI (by decide) rfl (t:=⟨[(0,.lst sz (l.map Freed.av) c),(7,.lst sz (l.map Freed.av) c),(8,i64 l.length),(9,i64 j)],_,[]⟩) ⟨(by assumption),rfl,rfl⟩ ?_
   | refine nxI (j+1,_) ⟨hj,zse g2 ?_⟩ (by simp only;omega) ⟨⟨rfl,rfl,rfl,rfl⟩,rfl,rfl⟩
   | refine retK (by assumption) (zas (zqz hj ?_).symm)
   | refine retP rfl (zas (zqz hj ?_).symm)
   | (exfalso;omega)
   | refine brd (fun _=>?_) (fun _=>?_)
   | refine bre (fun _=>?_) (fun _=>?_)
   | refine brq (fun _=>?_) (fun _=>?_)
   | refine brn (fun _=>?_) (fun _=>?_)
   | refine br (fun _=>?_) (fun _=>?_)
   | refine ldI (by rfl) ?_
   | refine ldI (zae _ _ _) ?_
   | refine ldI (zag _ _) ?_
   | refine stJ (by rfl) ?_
   | refine stJ (zag _ _) ?_
   | refine zI (zad (by omega) (by omega)) ?_
  all_goals clear good
  all_goals rw [zmt hj]
  all_goals try simp only [el] at *
  all_goals by_cases hj0:j=0
  all_goals simp_all
  all_goals omega
 ·have hj:j=l.length:=by simp only at a;omega
  subst hj
  conv=>whnf
  refine cutI (by decide) rfl (t:=⟨[],hp,[]⟩) ⟨trivial,rfl,rfl⟩ ?_
  conv=>whnf
  exact retP rfl (zas (zsf g2).symm)
end
theorem zxc:∀ (x y:Str),x.take (cp x y)=y.take (cp x y)
 | [],y=>by simp [cp]
 | a::x,[]=>by simp [cp]
 | a::x,b::y=>by
  simp only [cp]
  split
  ·rename_i h;subst h;simp [zxc x y]
  ·rfl
theorem zvl (p k:Str):pre2 p k <+: p:=List.take_prefix _ _
theorem zsz (p k:Str):pre2 p k <+: k:=by unfold pre2;rw [zxc];exact List.take_prefix _ _
theorem zjo:∀ (l:List Entry) (p:Str),l.foldl (fun p e=>pre2 p e.key) p <+: p ∧ ∀ e∈l,l.foldl (fun p e=>pre2 p e.key) p <+: e.key
 | [],p=>⟨List.prefix_refl _,fun e h=>by cases h⟩
 | a::r,p=>by
  obtain ⟨h1,h2⟩:=zjo r (pre2 p a.key)
  refine ⟨h1.trans (zvl _ _),fun e he=>?_⟩
  rcases List.mem_cons.1 he with rfl | he
  ·exact h1.trans (zsz _ _)
  ·exact h2 e he
theorem zgv (l:List Entry) (lv:Int):∀ e∈zdv l lv,shared l lv <+: e.key:=by
 intro e he
 unfold shared
 cases ht:zdv l lv with
 | nil=>rw [ht] at he;cases he
 | cons a r =>
  rw [ht] at he
  obtain ⟨h1,h2⟩:=zjo r a.key
  rcases List.mem_cons.1 he with rfl | he
  ·exact h1
  ·exact h2 e he
def zdx (l:List Entry) (lv:Int) (i:Nat):Nat:=if i=0 ∧ 0<lv then 0 else (shared l lv).length
theorem zo0 {l:List Entry}{lv:Int}{i:Nat}(hi:i<l.length) (h:¬ (i=0 ∧ 0<lv)):shared l lv <+: l[i].key:=by
 refine zgv l lv _ ?_
 unfold zdv
 split
 ·rename_i hl
  obtain ⟨k,rfl⟩ : ∃ k,i=k+1:=⟨i-1,by omega⟩
  rw [List.mem_iff_getElem]
  exact ⟨k,by simp;omega,by simp [Nat.add_comm]⟩
 ·exact List.getElem_mem hi
theorem zr8 {l:List Entry}{lv:Int}{i:Nat}(hi:i<l.length):zdx l lv i ≤ l[i].key.length:=by
 unfold zdx
 split
 ·omega
 ·rename_i h;exact (zo0 hi h).length_le
theorem z2n {e:Entry}(hf:zaz e≠0):e.Nn ∧ e.key.length ≤ 48 ∧ e.val.length ≤ 64:=by
 have hk:=zmu hf
 unfold zaz at hf
 split at hf
 ·exact (hf rfl).elim
 split at hf
 ·rename_i h
  simp [zei] at h
  obtain ⟨⟨⟨⟨⟨h1,h2⟩,h3⟩,h4⟩,_⟩,h5⟩:=h
  exact ⟨⟨by omega,by omega,by omega,by omega⟩,by omega,h5⟩
 split at hf
 ·exact (hf rfl).elim
 rename_i hv
 simp at hv
 split at hf
 ·rename_i h
  simp [zjh,za6,za3] at h
  exact ⟨⟨by omega,by omega,by omega,by omega⟩,by omega,by simp [hv]⟩
 split at hf
 ·rename_i h
  simp [zjg,za6,za3] at h
  exact ⟨⟨by omega,by omega,by omega,by omega⟩,by omega,by simp [hv]⟩
 ·exact (hf rfl).elim
theorem zv2 {e:Entry}(h:zbq e=true):e.Nn ∧ e.key.length ≤ 48 ∧ e.val.length ≤ 64:=by
 simp [zbq,za6,za3] at h
 obtain ⟨⟨⟨⟨⟨h1,h2⟩,h3⟩,h4⟩,h5⟩,h6⟩:=h
 exact ⟨⟨by omega,by omega,by omega,by omega⟩,by omega,by simp [h2]⟩
theorem zq7 {l:List Entry}{lv:Int}(hv:zdf l lv=true):∀ e∈l,e.Nn ∧ e.key.length ≤ 48 ∧ e.val.length ≤ 64:=by
 obtain ⟨h1,h2,h3,h4⟩:=valid_iff.1 hv
 intro e he
 obtain ⟨j,hj,rfl⟩:=List.getElem_of_mem he
 have:=h4 j hj
 rw [zir hj] at this
 by_cases e0:lv=0
 ·subst e0
  simp at this
  exact z2n this.1
 ·simp [e0] at this
  exact zv2 this.1.1
def zea (l:List Entry) (lv:Int) (k:Nat):Str:=(List.range k).flatMap fun i=>entB (zdx l lv i) (l.getD i default) lv
def zn2 (l:List Entry) (lv:Int) (base k:Nat):Str:=(List.range k).flatMap fun i=>num (base+(zea l lv i).length) 2
def zkl (tree lv:Int) (top:Bool) (l:List Entry) (base:Nat):Str :=
 num tree.toNat 1++(num lv.toNat 1++(num (if top then 1 else 0) 1++(num (shared l lv).length 1++(num l.length 2++(shared l lv++(zn2 l lv (base+6+(shared l lv).length+2*l.length) l.length++zea l lv l.length))))))
theorem zd9 (l:List Entry) (lv:Int) {k:Nat}(hk:k<l.length):zea l lv (k+1)=zea l lv k++entB (zdx l lv k) l[k] lv:=by
 unfold zea
 rw [List.range_succ,List.flatMap_append,List.flatMap_cons,List.flatMap_nil,List.append_nil,← zqc hk]
theorem zlc (l:List Entry) (lv:Int) (base k:Nat):zn2 l lv base (k+1)=zn2 l lv base k++num (base+(zea l lv k).length) 2:=by
 unfold zn2
 rw [List.range_succ,List.flatMap_append,List.flatMap_cons,List.flatMap_nil,List.append_nil]
theorem zfa (l:List Entry) (lv:Int) (base:Nat):∀ k,(zn2 l lv base k).length=2*k
 | 0=>rfl
 | k+1=>by rw [zlc,List.length_append,zfa l lv base k,zal];omega
theorem zr5 (c:Nat) (e:Entry) (lv:Int):(entB c e lv).length ≤ 27+e.key.length+e.val.length ∧ 1 ≤ (entB c e lv).length:=by
 have:=znu e lv
 unfold entB
 simp only [List.length_append,zal,List.length_drop]
 omega
theorem zjx {l:List Entry}{lv:Int}(hv:zdf l lv=true):∀ k,k ≤ l.length → (zea l lv k).length ≤ 140*k
 | 0,_=>by simp [zea]
 | k+1,hk=>by
  have h1:=zjx hv k (by omega)
  have h2:=zr5 (zdx l lv k) l[k] lv
  have h3:=zq7 hv _ (List.getElem_mem (show k<l.length by omega))
  rw [zd9 l lv (by omega),List.length_append]
  omega
theorem Wrote.other {hp h h':zaa}{a b:Nat}{F G GA GA':List Nat}{s sA:Str}(w:Wrote hp h b F G s) (v:Wrote h h' a GA GA' sA) (h1:∀ x∈GA,hp.length ≤ x) (h2:∀ x∈G,x ∉ GA):Wrote hp h' b F G s :=
 ⟨w.1.stays v.2.1 h2,w.2.1.trans v.2.1 (fun x hx=>.inr (h1 x hx)),w.2.2⟩
theorem Wrote.apart {h h':zaa}{b:Nat}{F F' GA:List Nat}{s:Str}(w:Wrote h h' b F F' s) (hd:∀ x∈GA,x ∉ F) (hl:∀ x∈GA,x<h.length):∀ x∈GA,x ∉ F':=fun x hx hf=>by
 rcases w.2.2 x hf with q | q
 ·exact hd x hx q
 ·have:=hl x hx;omega
def zeroE:Entry:=⟨[],[],0,0,0,0,Dg.zero⟩
def zfc (tree lv:Int) (top:Bool) (l:List Entry) (sz:Nat) (c:Bool):List AV:=[i64 tree,i64 lv,.bool top,.lst sz (l.map Entry.av) c]
section
variable {n:Nat}{hp:zaa}{b:Nat}{bs:Str}{F:List Nat}{K X:AV → zaa → Prop}
theorem z2m (hn:5 ≤ n) (w:BW hp b bs F) (tree lv:Int) (top:Bool) (h0:0 ≤ tree) (l:List Entry) (sz:Nat) (hz:l≠[] → sz=22) (c:Bool) (hv:zdf l lv=true) (hl:l.length ≤ 1000) (hbs:bs.length ≤ 1000) :
  ∃ hp' F',C n 278 [.agg (zfc tree lv top l sz c),.ptr b 0 0] hp=some (.ret (.tup []),hp') ∧ Wrote hp hp' b F F' (bs++zkl tree lv top l bs.length):=by
 obtain ⟨m,rfl⟩:=pre1 n
 have:=zcp (n:=m) (c:=cfg0) (args:=[.agg (zfc tree lv top l sz c),.ptr b 0 0]) (h:=hp) (R:=fun v hp'=>v=.tup [] ∧ ∃ F',Wrote hp hp' b F F' (bs++zkl tree lv top l bs.length)) F278 rfl rfl ?_
 ·obtain ⟨v,hp',e,rfl,F',hW⟩:=this
  exact ⟨hp',F',e,hW⟩
 obtain ⟨⟨lv0,lv20⟩,hne,_,_⟩:=valid_iff.1 hv
 have hnn:=zq7 hv
 have hpre:=zk3 hv
 obtain ⟨w1,e1,ne1⟩:=w.app (.cells 0 (some 296) (zfc tree lv top l sz c) 0)
 conv=>whnf
 refine ldI e1 ?_
 conv=>whnf
 refine ldI e1 ?_
 conv=>whnf
 refine clI (zu3 (n:=m) (by omega) l (by omega) (fun e h=>by have:=hnn e h;exact ⟨by omega,by omega⟩) lv (zku hv) sz hz c) ?_
 conv=>whnf
 refine ldI e1 ?_
 conv=>whnf
 refine numC (n:=m) (hp:=hp++[.cells 0 (some 296) (zfc tree lv top l sz c) 0]) (by omega) w1 tree h0 1 (by omega) (by omega) fun h2 F2 w2=>?_
 have e2:=(w2.keep e1 ne1).1
 have ne2:=(w2.keep e1 ne1).2
 conv=>whnf
 refine ldI e2 ?_
 conv=>whnf
 refine numC (n:=m) (hp:=h2) (by omega) w2.1 lv (by omega) 1 (by omega) (by simp only [List.length_append,zal];omega) fun h3 F3 w3=>?_
 have e3:=(w3.keep e2 ne2).1
 have ne3:=(w3.keep e2 ne2).2
 have rest:∀ (k:Int) (s':LS),k=(if top then 1 else 0) → LS.sub ⟨[(1,.ptr b 0 0),(2,.ptr hp.length 0 0),(4,.str (shared l lv)),(5,i64 k)],h3,[]⟩ s' →
   OkR Tryz.prog (C m) cfg0.inl KK 86 7 (zew c278) s' (RetQ Tryz.prog [] fun v hp'=>v=.tup [] ∧ ∃ F',Wrote hp hp' b F F' (bs++zkl tree lv top l bs.length)):=by
  intro k s' hk hs'
  have hk01:0 ≤ k ∧ k ≤ 1:=by subst hk;split<;>omega
  refine cutI (by decide) rfl hs' ?_
  conv=>whnf
  refine numC (n:=m) (hp:=h3) (by omega) w3.1 k (by omega) 1 (by omega) (by simp only [List.length_append,zal];omega) fun h4 F4 w4=>?_
  have e4:=(w4.keep e3 ne3).1
  have ne4:=(w4.keep e3 ne3).2
  conv=>whnf
  refine numC (n:=m) (hp:=h4) (by omega) w4.1 ((shared l lv).length:Int) (by omega) 1 (by omega) (by simp only [List.length_append,zal];omega) fun h5 F5 w5=>?_
  have e5:=(w5.keep e4 ne4).1
  have ne5:=(w5.keep e4 ne4).2
  conv=>whnf
  refine ldI e5 ?_
  conv=>whnf
  have el:((l.map Entry.av).length:Int)=(l.length:Int):=by rw [List.length_map]
  rw [el]
  refine numC (n:=m) (hp:=h5) (by omega) w5.1 (l.length:Int) (by omega) 2 (by omega) (by simp only [List.length_append,zal];omega) fun h6 F6 w6=>?_
  have e6:=(w6.keep e5 ne5).1
  have ne6:=(w6.keep e5 ne5).2
  conv=>whnf
  refine strC (n:=m) (hp:=h6) (by omega) w6.1 (shared l lv) (by simp only [List.length_append,zal];omega) fun h7 F7 w7=>?_
  have e7:=(w7.keep e6 ne6).1
  have ne7:=(w7.keep e6 ne6).2
  have W7:=((w2.trans (w3.trans (w4.trans (w5.trans (w6.trans w7))))).of_app)
  obtain ⟨w8,a8,na8⟩:=w7.1.app (.cells 0 (some 248) [.nilp,.lst 0 [] true] 0)
  have e8:=za8 (x:=.cells 0 (some 248) [.nilp,.lst 0 [] true] 0) e7
  have hA:h7.length ∉ F7:=na8
  have hlen:hp.length ≤ h7.length:=W7.2.1.1
  have hlen8:(bs++num tree.toNat 1++num lv.toNat 1++num k.toNat 1++num ((shared l lv).length:Int).toNat 1++num (l.length:Int).toNat 2++shared l lv).length=bs.length+6+(shared l lv).length:=by
   simp only [List.length_append,zal]
  conv=>whnf
  refine ldI e8 ?_
  conv=>whnf
  rw [el]
  refine zI (z:=2*(l.length:Int)) (zad (by omega) (by omega)) ?_
  conv=>whnf
  refine clI (zly (n:=m) (by omega) w8) ?_
  conv=>whnf
  refine ⟨?_,?_⟩
  ·conv=>whnf
   exact ldI e8 rfl
  conv=>whnf
  refine zI (z:=((bs.length+6+(shared l lv).length+2*l.length:Nat):Int)) (by rw [hlen8,zad (by omega) (by omega)];omega) ?_
  conv=>whnf
  refine ldI e8 ?_
  conv=>whnf
  refine za7 (by decide) rfl (α:=Nat × List Nat × List Nat × zaa) (fun x=>⟨[(1,.ptr b 0 0),(2,.ptr hp.length 0 0),(4,.str (shared l lv)),(6,.ptr h7.length 0 0),(7,i64 (bs.length+6+(shared l lv).length+2*l.length:Nat)),(53,.lst sz (l.map Entry.av) c),(54,i64 l.length),(55,i64 x.1)],x.2.2.2,[]⟩)
   (fun x=>x.1 ≤ l.length ∧ Wrote hp x.2.2.2 b F x.2.1 (bs++(num tree.toNat 1++(num lv.toNat 1++(num k.toNat 1++(num (shared l lv).length 1++(num l.length 2++(shared l lv++zn2 l lv (bs.length+6+(shared l lv).length+2*l.length) x.1))))))) ∧ BW x.2.2.2 h7.length (zea l lv x.1) x.2.2.1 ∧
    (∀ y∈x.2.2.1,hp.length<y ∧ y ∉ x.2.1) ∧ x.2.2.2[hp.length]?=some (.cells 0 (some 296) (zfc tree lv top l sz c) 0) ∧ hp.length ∉ x.2.1) (fun x=>l.length-x.1) (0,F7,[h7.length],h7++[.cells 0 (some 248) [.nilp,.lst 0 [] true] 0]) ⟨⟨rfl,rfl,rfl,rfl,rfl,rfl,lenI _ _,rfl⟩,rfl,rfl⟩ ?_ (by show l.length-0<KK;simp only [KK];omega) ?_
  ·refine ⟨Nat.zero_le _,?_,⟨_,_,_,a8,.inl rfl,.inr rfl,.inl ⟨rfl,rfl,rfl⟩⟩,?_,e8,ne7⟩
   ·have W8:Wrote hp (h7++[.cells 0 (some 248) [.nilp,.lst 0 [] true] 0]) b F F7 _:=⟨w8,W7.2.1.trans ((Keep.app h7 _ []).mono (by simp)) (fun x hx=>.inl hx),W7.2.2⟩
    simpa [zn2,List.append_assoc] using W8
   ·intro y hy
    simp at hy
    subst hy
    exact ⟨zac e7,hA⟩
  rintro ⟨j,G,GA,h⟩ ⟨g1,g2,g3,g4,g5,g6⟩
  simp only at g1 g2 g3 g4 g5 g6
  conv=>whnf
  refine brd (fun a=>?_) (fun a=>?_)
  ·have hj:j<l.length:=by simp only at a;omega
   have hk':=hnn _ (List.getElem_mem hj)
   have hE1:=zjx hv j (by omega)
   have hO:=zfa l lv (bs.length+6+(shared l lv).length+2*l.length) j
   obtain ⟨u0,x0,nx0⟩:=g2.1.app (.cells 0 (some 147) l[j].cells 0)
   have v0:=g3.stays (Keep.app h (.cells 0 (some 147) l[j].cells 0) []) (by simp)
   have nxA:h.length ∉ GA:=fun q=>by have:=g3.lt _ q;omega
   have y0:=za8 (x:=.cells 0 (some 147) l[j].cells 0) g5
   have es:(h++[AB.cells 0 (some 147) zeroE.cells 0]).set h.length (.cells 0 (some 147) l[j].cells 0)=h++[.cells 0 (some 147) l[j].cells 0]:=by simp
   have u1:=es ▸ u0
   have x1:=es ▸ x0
   have v1:=es ▸ v0
   have y1:=es ▸ y0
   conv=>whnf
   refine ixL zbp hj hz ?_
   conv=>whnf
   refine stJ (zag _ _) ?_
   conv=>whnf
   refine clI (zly (n:=m) (hp:=(h++[AB.cells 0 (some 147) zeroE.cells 0]).set h.length (.cells 0 (some 147) l[j].cells 0)) (by omega) v1) ?_
   conv=>whnf
   refine zI (z:=(((bs.length+6+(shared l lv).length+2*l.length)+(zea l lv j).length:Nat):Int)) (by rw [zad (by omega) (by omega)];omega) ?_
   conv=>whnf
   refine numC (n:=m) (hp:=(h++[AB.cells 0 (some 147) zeroE.cells 0]).set h.length (.cells 0 (some 147) l[j].cells 0)) (by omega) u1 _ (by omega) 2 (by omega) (by simp only [List.length_append,zal,hO];omega) fun h9 G9 w9=>?_
   have x9:=(w9.keep x1 nx0).1
   have y9:=(w9.keep y1 g6).1
   have ny9:=(w9.keep y1 g6).2
   have v9:=v1.stays w9.2.1 fun x hx=>(g4 x hx).2
   have w9':Wrote h h9 b G G9 _:=Wrote.of_app (es ▸ w9)
   have W9:=g2.trans w9'
   have ap:∀ x∈GA,x ∉ G9:=w9'.apart (fun x hx=>(g4 x hx).2) g3.lt
   have call:∀ {Q:Ex → LS → Prop}(cc:Nat) (s':LS),cc=zdx l lv j → LS.sub ⟨[(1,.ptr b 0 0),(2,.ptr hp.length 0 0),(4,.str (shared l lv)),(6,.ptr h7.length 0 0),(7,i64 ((bs.length+6+(shared l lv).length+2*l.length):Nat)),(9,.ptr h.length 0 0),(10,i64 cc),(53,.lst sz (l.map Entry.av) c),(54,i64 l.length),(55,i64 j)],h9,[]⟩ s' →
     (∀ h10 GA10,Wrote h9 h10 h7.length GA GA10 (zea l lv j++entB (zdx l lv j) l[j] lv) → ∀ L,subL [(1,.ptr b 0 0),(2,.ptr hp.length 0 0),(4,.str (shared l lv)),(6,.ptr h7.length 0 0),(7,i64 ((bs.length+6+(shared l lv).length+2*l.length):Nat)),(53,.lst sz (l.map Entry.av) c),(54,i64 l.length),(55,i64 j)] L → Q .norm ⟨L,h10,[]⟩) →
     OkR Tryz.prog (C m) cfg0.inl KK 86 7 (zew (c278.lp 0)) s' Q:=by
    intro Q cc s' hcc hs' hQ
    subst hcc
    obtain ⟨h10,GA10,e10,w10⟩:=z0i (n:=m) (by omega) v9 (zfc tree lv top l sz c) lv rfl rfl l[j] hk'.1 (zdx l lv j) (zr8 hj) (by omega)
    refine cutI (by decide) rfl hs' ?_
    conv=>whnf
    refine ldI y9 ?_
    conv=>whnf
    refine ldI x9 ?_
    conv=>whnf
    refine clI e10 ?_
    exact hQ h10 GA10 w10 _ ⟨rfl,rfl,rfl,rfl,rfl,rfl,rfl,rfl⟩
   have next:∀ (L:LT) (h10:zaa) (GA10:List Nat),Wrote h9 h10 h7.length GA GA10 (zea l lv j++entB (zdx l lv j) l[j] lv) →
     (Wrote hp h10 b F G9 (bs++(num tree.toNat 1++(num lv.toNat 1++(num k.toNat 1++(num (shared l lv).length 1++(num l.length 2++(shared l lv++zn2 l lv (bs.length+6+(shared l lv).length+2*l.length) (j+1)))))))) ∧ BW h10 h7.length (zea l lv (j+1)) GA10 ∧
     (∀ y∈GA10,hp.length<y ∧ y ∉ G9) ∧ h10[hp.length]?=some (.cells 0 (some 296) (zfc tree lv top l sz c) 0) ∧ hp.length ∉ G9):=by
    intro L h10 GA10 w10
    refine ⟨?_,?_,?_,?_,ny9⟩
    ·have:=W9.other w10 (fun x hx=>by have:=(g4 x hx).1;omega) (fun x hx q=>ap x q hx)
     rw [zlc]
     rw [Int.toNat_natCast] at this
     simpa only [List.append_assoc] using this
    ·rw [zd9 l lv hj];exact w10.1
    ·intro y hy
     rcases w10.2.2 y hy with q | q
     ·exact ⟨(g4 y q).1,ap y q⟩
     ·refine ⟨?_,fun q2=>?_⟩
      ·have:=zac y9;omega
      ·have:=W9.1.lt y q2;omega
    ·exact (w10.keep y9 (fun q=>by have:=(g4 _ q).1;omega)).1
   conv=>whnf
   refine bre (fun e=>?_) (fun e=>?_)
   ·conv=>whnf
    refine ldI y9 ?_
    conv=>whnf
    refine brd (fun d=>?_) (fun d=>?_)
    ·refine call 0 _ (by unfold zdx;rw [if_pos ⟨by omega,d⟩]) ⟨⟨rfl,rfl,rfl,rfl,rfl,rfl,rfl,rfl,rfl,rfl⟩,rfl,rfl⟩ fun h10 GA10 w10 L hL=>?_
     refine cutI (by decide) rfl (t:=⟨[(1,.ptr b 0 0),(2,.ptr hp.length 0 0),(4,.str (shared l lv)),(6,.ptr h7.length 0 0),(7,i64 (bs.length+6+(shared l lv).length+2*l.length:Nat)),(53,.lst sz (l.map Entry.av) c),(54,i64 l.length),(55,i64 j)],h10,[]⟩) ⟨hL,rfl,rfl⟩ ?_
     conv=>whnf
     refine zJ j ?_
     exact nxI (j+1,G9,GA10,h10) ⟨hj,next [] h10 GA10 w10⟩ (by simp only;omega) ⟨⟨rfl,rfl,rfl,rfl,rfl,rfl,rfl,rfl⟩,rfl,rfl⟩
    ·refine call (shared l lv).length _ (by unfold zdx;rw [if_neg (fun q=>d q.2)]) ⟨⟨rfl,rfl,rfl,rfl,rfl,rfl,rfl,rfl,rfl,rfl⟩,rfl,rfl⟩ fun h10 GA10 w10 L hL=>?_
     refine cutI (by decide) rfl (t:=⟨[(1,.ptr b 0 0),(2,.ptr hp.length 0 0),(4,.str (shared l lv)),(6,.ptr h7.length 0 0),(7,i64 (bs.length+6+(shared l lv).length+2*l.length:Nat)),(53,.lst sz (l.map Entry.av) c),(54,i64 l.length),(55,i64 j)],h10,[]⟩) ⟨hL,rfl,rfl⟩ ?_
     conv=>whnf
     refine zJ j ?_
     exact nxI (j+1,G9,GA10,h10) ⟨hj,next [] h10 GA10 w10⟩ (by simp only;omega) ⟨⟨rfl,rfl,rfl,rfl,rfl,rfl,rfl,rfl⟩,rfl,rfl⟩
   ·conv=>whnf
    refine call (shared l lv).length _ (by unfold zdx;rw [if_neg (fun q=>e (by omega))]) ⟨⟨rfl,rfl,rfl,rfl,rfl,rfl,rfl,rfl,rfl,rfl⟩,rfl,rfl⟩ fun h10 GA10 w10 L hL=>?_
    refine cutI (by decide) rfl (t:=⟨[(1,.ptr b 0 0),(2,.ptr hp.length 0 0),(4,.str (shared l lv)),(6,.ptr h7.length 0 0),(7,i64 (bs.length+6+(shared l lv).length+2*l.length:Nat)),(53,.lst sz (l.map Entry.av) c),(54,i64 l.length),(55,i64 j)],h10,[]⟩) ⟨hL,rfl,rfl⟩ ?_
    conv=>whnf
    refine zJ j ?_
    exact nxI (j+1,G9,GA10,h10) ⟨hj,next [] h10 GA10 w10⟩ (by simp only;omega) ⟨⟨rfl,rfl,rfl,rfl,rfl,rfl,rfl,rfl⟩,rfl,rfl⟩
  ·have hj:j=l.length:=by simp only at a;omega
   subst hj
   have hne2:zea l lv l.length≠[]:=by
    obtain ⟨q,hq⟩ : ∃ q,l.length=q+1:=⟨l.length-1,by cases l with | nil=>exact (hne rfl).elim | cons=>simp⟩
    rw [hq,zd9 l lv (by omega)]
    intro e
    have:=congrArg List.length e
    have h2:=(zr5 (zdx l lv q) (l[q]'(by omega)) lv).2
    rw [List.length_append] at this
    simp only [List.length_nil] at this
    omega
   have hE1:=zjx hv l.length (by omega)
   have hO:=zfa l lv (bs.length+6+(shared l lv).length+2*l.length) l.length
   obtain ⟨h10,e10,w10⟩:=zfq (n:=m) (by omega) g3 hne2 (by omega)
   have W10:=g2.other w10 (fun x hx=>by have:=(g4 x hx).1;omega) (fun x hx q=>(g4 x q).2 hx)
   conv=>whnf
   refine cutI (by decide) rfl (t:=⟨[(1,.ptr b 0 0),(6,.ptr h7.length 0 0)],h,[]⟩) ⟨⟨rfl,rfl⟩,rfl,rfl⟩ ?_
   conv=>whnf
   refine clI e10 ?_
   conv=>whnf
   refine strC (n:=m) (hp:=h10) (by omega) W10.1 (zea l lv l.length) (by simp only [List.length_append,zal,hO];omega) fun h11 F11 w11=>?_
   conv=>whnf
   refine ⟨rfl,[],rfl,rfl,F11,?_⟩
   have:=W10.trans w11
   have ht:k.toNat=if top then 1 else 0:=by subst hk;cases top<;>rfl
   unfold zkl
   rw [← ht]
   simpa [List.append_assoc] using this
 conv=>whnf
 refine ldI e3 ?_
 refine br (fun a=>?_) (fun a=>?_)
 ·subst a
  conv=>whnf
  exact rest 1 _ rfl ⟨⟨rfl,rfl,rfl,rfl⟩,rfl,rfl⟩
 ·subst a
  conv=>whnf
  exact rest 0 _ rfl ⟨⟨rfl,rfl,rfl,rfl⟩,rfl,rfl⟩
end
section
variable {n:Nat}{h:zaa}
theorem zm2 (hn:7 ≤ n) (p:Page) (ok:p.Ok):C n 143 [p.av] h=some (.ret (i64 (if p.check then 0 else 2)),h):=by
 obtain ⟨m,rfl⟩:=pre1 n
 obtain ⟨o1,o2,o3,o4,o5,o6,o7⟩:=ok
 refine zak F143 rfl rfl rfl (by simp [zan,zcs]) ?_
 repeat' (conv=>whnf);first
  | refine clI (zdk (by omega) _) ?_
  | refine clI (zcc (by omega) _ _ _) ?_
  | refine clI (z3c (by omega) p.entries o3 o6 p.level p.esh.sz o1 p.esh.c) ?_
  | refine clI (zzg (by omega) p) ?_
  | refine clI (zv7 (by omega) _) ?_
  | refine clI (zz8 (by omega) p.freed o4 o7 p.fsh.sz o2 p.fsh.c) ?_
  | refine clI (zv6 (by omega) p.freed o4 (zws (by assumption) o7) p.fsh.sz o2 p.fsh.c) ?_
  | refine eqI (zw3 _ _) ?_
  | refine retP rfl (zbw ?_)
  | refine brd (fun _=>?_) (fun _=>?_)
  | refine bre (fun _=>?_) (fun _=>?_)
  | refine brq (fun _=>?_) (fun _=>?_)
  | refine brn (fun _=>?_) (fun _=>?_)
  | refine br (fun _=>?_) (fun _=>?_)
  | refine ldI (by rfl) ?_
  | refine ldI (zae _ _ _) ?_
  | refine ldI (zag _ _) ?_
  | refine stJ (by rfl) ?_
  | refine stJ (zag _ _) ?_
  | refine cutS (by decide) rfl ?_
 all_goals clear o1 o2 o3 o4 o5 o6 o7
 all_goals simp_all [Page.check]
def Page.body (p:Page):AV:=if p.kind=3 then .ifc 292 (.agg [i64 p.next,.str p.data]) else if p.kind=4 then .ifc 294 (.agg [i64 p.next,.lst p.fsh.sz (p.freed.map Freed.av) p.fsh.c]) else .ifc 296 (.agg (zfc p.tree p.level p.top p.entries p.esh.sz p.esh.c))
theorem z3m (hn:1 ≤ n) (p:Page):C n 175 [p.av] h=some (.ret p.body,h):=by
 obtain ⟨m,rfl⟩:=pre1 n
 have fe:∀ n,zex (n+3) (.lst p.esh.sz (p.entries.map Entry.av) p.esh.c):=fun n=>zd5 fun x hx=>by
  obtain ⟨e,_,rfl⟩:=List.mem_map.1 hx
  exact zby fun y hy=>by
   simp [Entry.cells,Dg.cells] at hy
   rcases hy with rfl | rfl | rfl | rfl | rfl | rfl | hy
   ·exact zg6
   ·exact zg6
   ·exact zat
   ·exact zat
   ·exact zat
   ·exact zat
   ·rcases hy with rfl | rfl | rfl | rfl | rfl | rfl | rfl | rfl | rfl | rfl | rfl | rfl | rfl | rfl | rfl | rfl<;>exact zat
 have ff:∀ n,zex (n+5) (.lst p.fsh.sz (p.freed.map Freed.av) p.fsh.c):=fun n=>zd5 fun x hx=>by
  obtain ⟨f,_,rfl⟩:=List.mem_map.1 hx
  exact zby fun y hy=>by
   simp [Freed.cells] at hy
   rcases hy with rfl | rfl
   ·exact zat
   ·exact zd5 fun z hz=>by
     obtain ⟨k,_,rfl⟩:=List.mem_map.1 hz
     exact zat
 refine zak F175 rfl rfl rfl (by simp [zan,zcs]) ?_
 repeat' (conv=>whnf);first
  | refine retP rfl ?_
  | refine brd (fun _=>?_) (fun _=>?_)
  | refine bre (fun _=>?_) (fun _=>?_)
  | refine brq (fun _=>?_) (fun _=>?_)
  | refine brn (fun _=>?_) (fun _=>?_)
  | refine br (fun _=>?_) (fun _=>?_)
  | refine ldI (by rfl) ?_
  | refine ldI (zae _ _ _) ?_
  | refine ldI (zag _ _) ?_
  | refine stJ (by rfl) ?_
  | refine stJ (zag _ _) ?_
  | refine cutS (by decide) rfl ?_
 ·show frz _ 64 (.ifc 292 (.agg [i64 p.next,.str p.data]))=some p.body
  refine (zjm (zby (n:=62) fun y hy=>?_) _).trans (congrArg some ?_)
  ·simp at hy
   rcases hy with rfl | rfl
   ·exact zat
   ·exact zg6
  ·simp_all [Page.body]
 ·show frz _ 64 (.ifc 294 (.agg [i64 p.next,.lst p.fsh.sz (p.freed.map Freed.av) p.fsh.c]))=some p.body
  refine (zjm (zby (n:=62) fun y hy=>?_) _).trans (congrArg some ?_)
  ·simp at hy
   rcases hy with rfl | rfl
   ·exact zat
   ·exact ff 57
  ·simp_all [Page.body]
 ·show frz _ 64 (.ifc 296 (.agg (zfc p.tree p.level p.top p.entries p.esh.sz p.esh.c)))=some p.body
  refine (zjm (zby (n:=62) fun y hy=>?_) _).trans (congrArg some ?_)
  ·simp [zfc] at hy
   rcases hy with rfl | rfl | rfl | rfl
   ·exact zat
   ·exact zat
   ·exact zlk
   ·exact fe 59
  ·simp_all [Page.body]
theorem zp1 (c:UInt32) (k:Nat) (hk:k ≤ 3):IntKind.u8.wrap (((c.toNat:Int)).fdiv (2 ^ (min ((8*k:Nat):Int).toNat IntKind.u32.bits)))=((UInt8.ofNat (c.toNat / 256 ^ k)).toNat:Int):=by
 have h1:min ((8*k:Nat):Int).toNat IntKind.u32.bits=8*k:=by show min ((8*k:Nat):Int).toNat 32=8*k;omega
 rw [h1,Int.fdiv_eq_ediv_of_nonneg _ (by exact Int.pow_nonneg (by decide))]
 have h2:((c.toNat:Int)) / (2 ^ (8*k):Int)=((c.toNat / 256 ^ k:Nat):Int):=by
  rw [show (256:Nat)=2 ^ 8 by rfl,← Nat.pow_mul]
  norm_cast
 rw [h2]
 show (if (IntKind.u8.signed&&decide (((c.toNat / 256 ^ k:Nat):Int) % (2 ^ 8:Int)≥(2 ^ (8-1):Int)))=true then ((c.toNat / 256 ^ k:Nat):Int) % (2 ^ 8:Int)-2 ^ 8 else ((c.toNat / 256 ^ k:Nat):Int) % (2 ^ 8:Int))=_
 rw [if_neg (by simp [IntKind.signed]),UInt8.toNat_ofNat']
 omega
def crcB (s:Str):Str:=[UInt8.ofNat ((crc s).toNat / 256 ^ 0),UInt8.ofNat ((crc s).toNat / 256 ^ 1),UInt8.ofNat ((crc s).toNat / 256 ^ 2),UInt8.ofNat ((crc s).toNat / 256 ^ 3)]
theorem zmy (hn:2 ≤ n) (s:Str) (hs:s.length<1099511627776):C n 179 [.str s] h=some (.ret (.str (s++crcB s)),h):=by
 obtain ⟨m,rfl⟩:=pre1 n
 refine zak F179 rfl rfl rfl rfl ?_
 conv=>whnf
 refine clI (zxb (by omega) s hs) ?_
 conv=>whnf
 refine zI (z:=((UInt8.ofNat ((crc s).toNat / 256 ^ 0)).toNat:Int)) (by rw [z07,Nat.pow_zero,Nat.div_one];rfl) ?_
 conv=>whnf
 refine ⟨by decide,_,rfl,?_⟩
 conv=>whnf
 refine zI (zp1 (crc s) 1 (by omega)) ?_
 conv=>whnf
 refine ⟨by decide,_,rfl,?_⟩
 conv=>whnf
 refine zI (zp1 (crc s) 2 (by omega)) ?_
 conv=>whnf
 refine ⟨by decide,_,rfl,?_⟩
 conv=>whnf
 refine zI (zp1 (crc s) 3 (by omega)) ?_
 conv=>whnf
 refine ⟨rfl,?_⟩
 conv=>whnf
 refine ⟨_,crcB s,zjs _ (crcB s) true,zbx _,?_⟩
 conv=>whnf
 refine ⟨by simp [crcB];omega,?_⟩
 conv=>whnf
 exact retP rfl (zht rfl)
end
def c177:RC :=
 (.seq (.ops [(oP 4 (.mv (.c (.str []))))])
 (.seq (.seq (.ops [(mV 11 1)])
 (.block 0
 (.seq (.ops [(oJ 13 .eql 11 0),(mV 12 13)])
 (.cond (.t 12)
 (.seq (.ops [(oP 4 (.mv (.c (.str []))))])
 .ret)
 (.seq (.ops [(oJ 15 .eql 11 1),(mV 14 15)])
 (.cond (.t 14)
 (.seq (.ops [(mV 16 0),(mV 4 16)])
 .ret)
 .skip))))))
 (.seq (.seq (.ops [(mV 17 1),(oJ 18 .lss 17 0)])
 (.cond (.t 18)
 (.ops [(oP 19 (.mkIfc 9 (.c (.str [115,116,114,105,110,103,115,58,32,110,101,103,97,116,105,118,101,32,82,101,112,101,97,116,32,99,111,117,110,116])))),
 ⟨none,none,.pan (.t 19)⟩])
 .skip))
 (.seq (.ops [(mV 21 0),(oP 22 (.lenS (.t 21))),(oP 23 (.toInt .u64 (.t 22))),(mV 24 1),(oP 25 (.toInt .u64 (.t 24))),(oW 26 215 23 25),(mV 20 26),(oQ 27 20 0),(oQ 28 20 1),(mV 5 27),(mV 6 28)])
 (.seq (.seq (.ops [(mV 29 5),(oP 30 (.bin .gtr (.t 29) (.c (.int .u64 0)))),(mV 31 30),(oE 32 31 false 6),(oG 33 31 false (.bin .gtr (.t 32) (.c (.int .u64 9223372036854775807)))),(oM 34 31 33)])
 (.cond (.t 34)
 (.ops [(oP 35 (.mkIfc 9 (.c (.str [115,116,114,105,110,103,115,58,32,82,101,112,101,97,116,32,111,117,116,112,117,116,32,108,101,110,103,116,104,32,111,118,101,114,102,108,111,119])))),
 ⟨none,none,.pan (.t 35)⟩])
 .skip))
 (.seq (.ops [(mV 36 6),(oP 37 (.toInt .i64 (.t 36))),(mV 7 37)])
 (.seq (.seq (.ops [(mV 38 0),(oP 39 (.lenS (.t 38))),(oJ 40 .eql 39 0)])
 (.cond (.t 40)
 (.seq (.ops [(oP 4 (.mv (.c (.str []))))])
 .ret)
 .skip))
 (.seq (.seq (.ops [(mV 41 0),(oP 42 (.indexS (.t 41) (.c (.int .i64 0))))])
 (.block 1
 (.seq (.seq (.ops [(oP 44 (.bin .eql (.t 42) (.c (.int .u8 32)))),(mV 43 44)])
 (.cond (.t 43)
 .skip
 (.seq (.ops [(oP 45 (.bin .eql (.t 42) (.c (.int .u8 45)))),(mV 43 45)])
 (.cond (.t 43)
 .skip
 (.seq (.ops [(oP 46 (.bin .eql (.t 42) (.c (.int .u8 48)))),(mV 43 46)])
 (.cond (.t 43)
 .skip
 (.seq (.ops [(oP 47 (.bin .eql (.t 42) (.c (.int .u8 61)))),(mV 43 47)])
 (.cond (.t 43)
 .skip
 (.ops [(oP 48 (.bin .eql (.t 42) (.c (.int .u8 9)))),(mV 43 48)])))))))))
 (.cond (.t 43)
 (.block 2
 (.seq (.ops [(mV 50 7),(oJ 51 .leq 50 128),(mV 52 51),(oE 53 52 true 0),(oG 54 52 true (.callF 216 [(.c (.str [32,32,32,32,32,32,32,32,32,32,32,32,32,32,32,32,32,32,32,32,32,32,32,32,32,32,32,32,32,32,32,32,32,32,32,32,32,32,32,32,32,32,32,32,32,32,32,32,32,32,32,32,32,32,32,32,32,32,32,32,32,32,32,32,32,32,32,32,32,32,32,32,32,32,32,32,32,32,32,32,32,32,32,32,32,32,32,32,32,32,32,32,32,32,32,32,32,32,32,32,32,32,32,32,32,32,32,32,32,32,32,32,32,32,32,32,32,32,32,32,32,32,32,32,32,32,32,32])),(.t 53)])),(oN 55 52 54),(mV 49 55)])
 (.cond (.t 49)
 (.seq (.ops [(mV 56 7),(oP 57 (.sliceS (.c (.str [32,32,32,32,32,32,32,32,32,32,32,32,32,32,32,32,32,32,32,32,32,32,32,32,32,32,32,32,32,32,32,32,32,32,32,32,32,32,32,32,32,32,32,32,32,32,32,32,32,32,32,32,32,32,32,32,32,32,32,32,32,32,32,32,32,32,32,32,32,32,32,32,32,32,32,32,32,32,32,32,32,32,32,32,32,32,32,32,32,32,32,32,32,32,32,32,32,32,32,32,32,32,32,32,32,32,32,32,32,32,32,32,32,32,32,32,32,32,32,32,32,32,32,32,32,32,32,32])) none (some (.t 56)))),(mV 4 57)])
 .ret)
 (.seq (.ops [(mV 59 7),(oJ 60 .leq 59 128),(mV 61 60),(oE 62 61 true 0),(oG 63 61 true (.callF 216 [(.c (.str [45,45,45,45,45,45,45,45,45,45,45,45,45,45,45,45,45,45,45,45,45,45,45,45,45,45,45,45,45,45,45,45,45,45,45,45,45,45,45,45,45,45,45,45,45,45,45,45,45,45,45,45,45,45,45,45,45,45,45,45,45,45,45,45,45,45,45,45,45,45,45,45,45,45,45,45,45,45,45,45,45,45,45,45,45,45,45,45,45,45,45,45,45,45,45,45,45,45,45,45,45,45,45,45,45,45,45,45,45,45,45,45,45,45,45,45,45,45,45,45,45,45,45,45,45,45,45,45])),(.t 62)])),(oN 64 61 63),(mV 58 64)])
 (.cond (.t 58)
 (.seq (.ops [(mV 65 7),(oP 66 (.sliceS (.c (.str [45,45,45,45,45,45,45,45,45,45,45,45,45,45,45,45,45,45,45,45,45,45,45,45,45,45,45,45,45,45,45,45,45,45,45,45,45,45,45,45,45,45,45,45,45,45,45,45,45,45,45,45,45,45,45,45,45,45,45,45,45,45,45,45,45,45,45,45,45,45,45,45,45,45,45,45,45,45,45,45,45,45,45,45,45,45,45,45,45,45,45,45,45,45,45,45,45,45,45,45,45,45,45,45,45,45,45,45,45,45,45,45,45,45,45,45,45,45,45,45,45,45,45,45,45,45,45,45])) none (some (.t 65)))),(mV 4 66)])
 .ret)
 (.seq (.ops [(mV 68 7),(oJ 69 .leq 68 64),(mV 70 69),(oE 71 70 true 0),(oG 72 70 true (.callF 216 [(.c (.str [48,48,48,48,48,48,48,48,48,48,48,48,48,48,48,48,48,48,48,48,48,48,48,48,48,48,48,48,48,48,48,48,48,48,48,48,48,48,48,48,48,48,48,48,48,48,48,48,48,48,48,48,48,48,48,48,48,48,48,48,48,48,48,48])),(.t 71)])),(oN 73 70 72),(mV 67 73)])
 (.cond (.t 67)
 (.seq (.ops [(mV 74 7),(oP 75 (.sliceS (.c (.str [48,48,48,48,48,48,48,48,48,48,48,48,48,48,48,48,48,48,48,48,48,48,48,48,48,48,48,48,48,48,48,48,48,48,48,48,48,48,48,48,48,48,48,48,48,48,48,48,48,48,48,48,48,48,48,48,48,48,48,48,48,48,48,48])) none (some (.t 74)))),(mV 4 75)])
 .ret)
 (.seq (.ops [(mV 77 7),(oJ 78 .leq 77 128),(mV 79 78),(oE 80 79 true 0),(oG 81 79 true (.callF 216 [(.c (.str [61,61,61,61,61,61,61,61,61,61,61,61,61,61,61,61,61,61,61,61,61,61,61,61,61,61,61,61,61,61,61,61,61,61,61,61,61,61,61,61,61,61,61,61,61,61,61,61,61,61,61,61,61,61,61,61,61,61,61,61,61,61,61,61,61,61,61,61,61,61,61,61,61,61,61,61,61,61,61,61,61,61,61,61,61,61,61,61,61,61,61,61,61,61,61,61,61,61,61,61,61,61,61,61,61,61,61,61,61,61,61,61,61,61,61,61,61,61,61,61,61,61,61,61,61,61,61,61])),(.t 80)])),(oN 82 79 81),(mV 76 82)])
 (.cond (.t 76)
 (.seq (.ops [(mV 83 7),(oP 84 (.sliceS (.c (.str [61,61,61,61,61,61,61,61,61,61,61,61,61,61,61,61,61,61,61,61,61,61,61,61,61,61,61,61,61,61,61,61,61,61,61,61,61,61,61,61,61,61,61,61,61,61,61,61,61,61,61,61,61,61,61,61,61,61,61,61,61,61,61,61,61,61,61,61,61,61,61,61,61,61,61,61,61,61,61,61,61,61,61,61,61,61,61,61,61,61,61,61,61,61,61,61,61,61,61,61,61,61,61,61,61,61,61,61,61,61,61,61,61,61,61,61,61,61,61,61,61,61,61,61,61,61,61,61])) none (some (.t 83)))),(mV 4 84)])
 .ret)
 (.seq (.ops [(mV 86 7),(oJ 87 .leq 86 64),(mV 88 87),(oE 89 88 true 0),(oG 90 88 true (.callF 216 [(.c (.str [9,9,9,9,9,9,9,9,9,9,9,9,9,9,9,9,9,9,9,9,9,9,9,9,9,9,9,9,9,9,9,9,9,9,9,9,9,9,9,9,9,9,9,9,9,9,9,9,9,9,9,9,9,9,9,9,9,9,9,9,9,9,9,9])),(.t 89)])),(oN 91 88 90),(mV 85 91)])
 (.cond (.t 85)
 (.seq (.ops [(mV 92 7),(oP 93 (.sliceS (.c (.str [9,9,9,9,9,9,9,9,9,9,9,9,9,9,9,9,9,9,9,9,9,9,9,9,9,9,9,9,9,9,9,9,9,9,9,9,9,9,9,9,9,9,9,9,9,9,9,9,9,9,9,9,9,9,9,9,9,9,9,9,9,9,9,9])) none (some (.t 92)))),(mV 4 93)])
 .ret)
 .skip)))))))))))
 .skip))))
 (.seq (.ops [(mV 94 7),(mV 8 94)])
 (.seq (.seq (.ops [(mV 95 7),(oJ 96 .gtr 95 8192)])
 (.cond (.t 96)
 (.seq (.ops [(mV 97 0),(oP 98 (.lenS (.t 97))),(oP 99 (.bin .quo (.c (.int .i64 8192)) (.t 98))),(mV 100 0),(oP 101 (.lenS (.t 100))),(oI 102 .mul 99 101),(mV 8 102)])
 (.seq (.ops [(mV 103 8),(oJ 104 .eql 103 0)])
 (.cond (.t 104)
 (.ops [(mV 105 0),(oP 106 (.lenS (.t 105))),(mV 8 106)])
 .skip)))
 .skip))
 (.seq (.ops [(oP 9 (.alloc 246 [.nilp,(.lst 0 [] true)]))])
 (.seq (.ops [(mV 107 7),(oW 108 217 9 107)])
 (.seq (.ops [(mV 109 0),(oW 110 176 9 109)])
 (.seq (.block 3
 (.loop
 (.seq (.seq (.ops [(oV 111 178 9),(mV 112 7),(oI 113 .lss 111 112)])
 (.cond (.t 113)
 .skip
 (.exit 3)))
 (.block 4
 (.seq (.ops [(mV 114 7),(oV 115 178 9),(oI 116 .sub 114 115),(oV 117 178 9),(mV 118 8),(oP 119 (.mm3 false (.t 116) (.t 117) (.t 118))),(mV 10 119)])
 (.ops [(oV 120 180 9),(mV 121 10),(oP 122 (.sliceS (.t 120) none (some (.t 121)))),(oW 123 176 9 122)]))))))
 (.cut (.seq (.ops [(oV 124 180 9),(mV 4 124)])
 .ret))))))))))))))))
theorem F177:FI 177 2 125 7 [.tmp 4] c177:=mkF Tryz.f177 Tryz.func177
def c217:RC :=
 (.seq (.ops [(mV 4 0),(oV 5 214 4)])
 (.seq (.seq (.ops [(mV 6 1),(oJ 7 .lss 6 0)])
 (.cond (.t 7)
 (.ops [(oP 8 (.mkIfc 9 (.c (.str [115,116,114,105,110,103,115,46,66,117,105,108,100,101,114,46,71,114,111,119,58,32,110,101,103,97,116,105,118,101,32,99,111,117,110,116])))),
 ⟨none,none,.pan (.t 8)⟩])
 .skip))
 (.seq (.draw [((mV 9 0),0),((oR 10 9),0),((oC 11 1 10),0),((oA 12 11),1),((oP 13 (.capL (.t 12))),0),((mV 14 0),0),((oR 15 14),0),((oC 16 1 15),0),((oA 17 16),1),((oK 18 17),0),((oI 19 .sub 13 18),0),((mV 20 1),0),((oI 21 .lss 19 20),0)])
 (.cond (.t 21)
 (.ops [(mV 22 0),(mV 23 1),(oW 24 240 22 23)])
 .skip))))
theorem F217:FI 217 2 25 5 [] c217:=mkF Tryz.f217 Tryz.func217
def c240:RC :=
 (.seq (.draw [((mV 5 0),0),((oR 6 5),0),((oC 7 1 6),0),((oA 8 7),1),((oP 9 (.capL (.t 8))),0),((oP 10 (.bin .mul (.c (.int .i64 2)) (.t 9))),0),((mV 11 1),0),((oI 12 .add 10 11),0),((mV 14 0),0),((oR 15 14),0),((oC 16 1 15),0),((oA 17 16),1),((oK 18 17),0),((oP 13 (.mkNZ 5 (.t 12))),2),((oP 19 (.sliceL 1 (.t 13) none (some (.t 18)) none)),1),((mV 4 19),0)])
 (.seq (.ops [(mV 20 4),(mV 21 0),(oR 22 21),(oC 23 1 22),(oA 24 23),(oP 25 (.cpy 1 (.t 20) (.t 24)))])
 (.ops [(mV 26 0),(mV 27 4),(oR 28 26),(oC 29 1 28),(oT 1 29 27)])))
theorem F240:FI 240 2 30 5 [] c240:=mkF Tryz.f240 Tryz.func240
def c215:RC :=
 (.seq (.ops [(oP 4 (.mv (.c (.int .u64 0)))),(oP 5 (.mv (.c (.int .u64 0))))])
 (.seq (.cond (.c (.bool false))
 (.seq (.ops [(mV 11 0),(oP 12 (.toInt .u32 (.t 11))),(mV 13 1),(oP 14 (.toInt .u32 (.t 13))),(oW 15 237 12 14),(mV 10 15),(oQ 16 10 0),(oQ 17 10 1),(mV 6 16),(mV 7 17)])
 (.seq (.ops [(mV 18 6),(oP 19 (.toInt .u64 (.t 18))),(mV 20 7),(oP 21 (.toInt .u64 (.t 20))),(mV 4 19),(mV 5 21)])
 .ret))
 .skip)
 (.seq (.ops [(mV 23 0),(mV 24 1),(oW 25 238 23 24),(mV 22 25),(oQ 26 22 0),(oQ 27 22 1),(mV 8 26),(mV 9 27)])
 (.seq (.ops [(mV 28 8),(mV 29 9),(mV 4 28),(mV 5 29)])
 .ret))))
theorem F215:FI 215 2 30 5 [.tmp 4,.tmp 5] c215:=mkF Tryz.f215 Tryz.func215
def c238:RC :=
 (.seq (.ops [(oP 4 (.mv (.c (.int .u64 0)))),(oP 5 (.mv (.c (.int .u64 0))))])
 (.seq (.ops [(mV 14 0),(oP 15 (.bin .and (.t 14) (.c (.int .u64 4294967295)))),(mV 6 15)])
 (.seq (.ops [(mV 16 0),(oP 17 (.bin .shr (.t 16) (.c (.int .u64 32)))),(mV 7 17)])
 (.seq (.ops [(mV 18 1),(oP 19 (.bin .and (.t 18) (.c (.int .u64 4294967295)))),(mV 8 19)])
 (.seq (.ops [(mV 20 1),(oP 21 (.bin .shr (.t 20) (.c (.int .u64 32)))),(mV 9 21)])
 (.seq (.ops [(mV 22 6),(mV 23 8),(oI 24 .mul 22 23),(mV 10 24)])
 (.seq (.ops [(mV 25 7),(mV 26 8),(oI 27 .mul 25 26),(mV 28 10),(oP 29 (.bin .shr (.t 28) (.c (.int .u64 32)))),(oI 30 .add 27 29),(mV 11 30)])
 (.seq (.ops [(mV 31 11),(oP 32 (.bin .and (.t 31) (.c (.int .u64 4294967295)))),(mV 12 32)])
 (.seq (.ops [(mV 33 11),(oP 34 (.bin .shr (.t 33) (.c (.int .u64 32)))),(mV 13 34)])
 (.seq (.ops [(mV 35 12),(mV 36 6),(mV 37 9),(oI 38 .mul 36 37),(oI 39 .add 35 38),(mV 12 39)])
 (.seq (.ops [(mV 40 7),(mV 41 9),(oI 42 .mul 40 41),(mV 43 13),(oI 44 .add 42 43),(mV 45 12),(oP 46 (.bin .shr (.t 45) (.c (.int .u64 32)))),(oI 47 .add 44 46),(mV 4 47)])
 (.seq (.ops [(mV 48 0),(mV 49 1),(oI 50 .mul 48 49),(mV 5 50)])
 .ret))))))))))))
theorem F238:FI 238 2 51 6 [.tmp 4,.tmp 5] c238:=mkF Tryz.f238 Tryz.func238
theorem zif {k:Int}(h0:0 ≤ k) (h1:k<18446744073709551616):IntKind.u64.wrap k=k:=by
 show (if (IntKind.u64.signed&&decide (k % (2 ^ 64:Int)≥(2 ^ (64-1):Int)))=true then k % (2 ^ 64:Int)-2 ^ 64 else k % (2 ^ 64:Int))=_
 rw [if_neg (by simp [IntKind.signed])]
 omega
theorem zml {k:Int}(h0:0 ≤ k) (h1:k<4294967296):IntKind.u64.wrap (BitVec.ofInt IntKind.u64.bits k &&& BitVec.ofInt IntKind.u64.bits 4294967295).toNat=k:=by
 obtain ⟨q,rfl⟩:=Int.eq_ofNat_of_zero_le h0
 have hq:q<4294967296:=by omega
 have e:(BitVec.ofInt IntKind.u64.bits (q:Int) &&& BitVec.ofInt IntKind.u64.bits 4294967295).toNat=q:=by
  show (BitVec.ofInt 64 (q:Int) &&& BitVec.ofInt 64 4294967295).toNat=q
  rw [BitVec.toNat_and]
  have h1:(BitVec.ofInt 64 (q:Int)).toNat=q:=by rw [BitVec.ofInt_natCast,BitVec.toNat_ofNat];omega
  have h2:(BitVec.ofInt 64 4294967295).toNat=2 ^ 32-1:=by decide
  rw [h1,h2,Nat.and_two_pow_sub_one_eq_mod];omega
 rw [e]
 exact zif (by omega) (by omega)
theorem ze0 {k:Int}(h0:0 ≤ k) (h1:k<4294967296):k.fdiv (2 ^ (min (32:Int).toNat IntKind.u64.bits))=0:=by
 have:min (32:Int).toNat IntKind.u64.bits=32:=by decide
 rw [this,Int.fdiv_eq_ediv_of_nonneg _ (by decide)]
 have:(2 ^ 32:Int)=4294967296:=by decide
 omega
section
variable {n:Nat}{h:zaa}
theorem zzo (hn:1 ≤ n) (k:Int) (h0:0 ≤ k) (h1:k<1048576):C n 238 [.int .u64 1,.int .u64 k] h=some (.ret (.tup [.int .u64 0,.int .u64 k]),h):=by
 obtain ⟨m,rfl⟩:=pre1 n
 refine zak F238 rfl rfl rfl rfl ?_
 conv=>whnf
 refine zI (zml (by decide) (by decide)) ?_
 conv=>whnf
 refine ⟨by decide,_,ze0 (by decide) (by decide),?_⟩
 conv=>whnf
 refine zI (zml h0 (by omega)) ?_
 conv=>whnf
 refine ⟨by decide,_,ze0 h0 (by omega),?_⟩
 conv=>whnf
 refine zI (z:=k) (by rw [Int.one_mul,zif h0 (by omega)]) ?_
 conv=>whnf
 refine zI (z:=0) (by rw [Int.zero_mul];rfl) ?_
 conv=>whnf
 refine ⟨by decide,_,ze0 h0 (by omega),?_⟩
 conv=>whnf
 refine zI (z:=0) (by rfl) ?_
 conv=>whnf
 refine zI (zml (by decide) (by decide)) ?_
 conv=>whnf
 refine ⟨by decide,_,ze0 (by decide) (by decide),?_⟩
 conv=>whnf
 refine zI (z:=0) (by rw [Int.mul_zero];rfl) ?_
 conv=>whnf
 refine zI (z:=0) (by rfl) ?_
 conv=>whnf
 refine zI (z:=0) (by rw [Int.mul_zero];rfl) ?_
 conv=>whnf
 refine zI (z:=0) (by rfl) ?_
 conv=>whnf
 refine ⟨by decide,_,ze0 (by decide) (by decide),?_⟩
 conv=>whnf
 refine zI (z:=0) (by rfl) ?_
 conv=>whnf
 refine zI (z:=k) (by rw [Int.one_mul,zif h0 (by omega)]) ?_
 conv=>whnf
 exact retP rfl rfl
theorem mul_eq (hn:2 ≤ n) (k:Int) (h0:0 ≤ k) (h1:k<1048576):C n 215 [.int .u64 1,.int .u64 k] h=some (.ret (.tup [.int .u64 0,.int .u64 k]),h):=by
 obtain ⟨m,rfl⟩:=pre1 n
 refine zak F215 rfl rfl rfl rfl ?_
 conv=>whnf
 refine clI (zzo (by omega) k h0 h1) ?_
 conv=>whnf
 exact retP rfl rfl
theorem z25 (hn:1 ≤ n) {hp:zaa}{b t:Nat}{a:AV}(hb:hp[b]?=some (.cells 0 (some t) [a,.lst 0 [] true] 0)) (ha:a=.ptr b 0 0) (ht:t=tBld ∨ t=tWri) (k:Int) (h0:0<k) (h1:k<1048576) :
  ∃ hp' F',C n 240 [.ptr b 0 0,i64 k] hp=some (.ret (.tup []),hp') ∧ Wrote hp hp' b [b] F' []:=by
 obtain ⟨m,rfl⟩:=pre1 n
 subst ha
 refine ⟨(hp++[AB.cells 0 (some 5) [] 0]).set b (.cells 0 (some t) (putAt [.ptr b 0 0,.lst 0 [] true] 1 [.sl 1 hp.length 0 0 0]) 0),[b,hp.length],?_,?_⟩
 ·refine za2 F240 rfl rfl ?_
  have hb':=za8 (x:=AB.cells 0 (some 5) [] 0) hb
  conv=>whnf
  refine ldI hb ?_
  conv=>whnf
  refine ⟨0,rfl,?_⟩
  conv=>whnf
  refine zI (z:=0) (by rfl) ?_
  conv=>whnf
  refine zI (z:=k) (by rw [zad (by omega) (by omega)];omega) ?_
  conv=>whnf
  refine ldI hb ?_
  conv=>whnf
  refine ⟨by omega,by omega,?_⟩
  conv=>whnf
  refine ⟨⟨?_,?_⟩,?_⟩
  ·conv=>whnf
   exact ldI hb' rfl
  ·conv=>whnf
   exact ldI hb' rfl
  conv=>whnf
  refine slI (v:=.sl 1 hp.length 0 0 0) ?_ ?_
  ·unfold zbm
   simp only [Option.getD_none,Option.getD_some]
   rw [if_pos ⟨by omega,by simp,by simp;omega,trivial⟩,if_neg (by omega)]
   simp
  conv=>whnf
  refine ldI hb' ?_
  refine ⟨_,rfl,?_⟩
  conv=>whnf
  refine stJ hb' ?_
  exact ⟨rfl,[],rfl,rfl,rfl⟩
 ·have hlt:=zac hb
  refine ⟨⟨_,_,_,by rw [List.getElem?_set_self (by simp;omega)];rfl,.inr rfl,ht,.inr ⟨hp.length,0,0,rfl,?_,by omega,Nat.le_refl _,rfl⟩⟩,((Keep.app hp _ []).mono (by simp)).set' (.inl (by simp)),?_⟩
  ·rw [List.getElem?_set_ne (by omega)];simp
  ·intro x hx;simp at hx;rcases hx with rfl | rfl<;>simp
theorem zx8 (hn:2 ≤ n) {hp:zaa}{b:Nat}(hb:hp[b]?=some (.cells 0 (some tBld) [.nilp,.lst 0 [] true] 0)) (k:Int) (h0:0<k) (h1:k<1048576) :
  ∃ hp' F',C n 217 [.ptr b 0 0,i64 k] hp=some (.ret (.tup []),hp') ∧ Wrote hp hp' b [b] F' []:=by
 obtain ⟨m,rfl⟩:=pre1 n
 have w:BW hp b [] [b]:=⟨_,_,_,hb,.inl rfl,.inl rfl,.inl ⟨rfl,rfl,rfl⟩⟩
 obtain ⟨hp1,t,buf,ec,hb1,ht,hB,k1⟩:=zfl (n:=m) (by omega) w
 have hbuf:buf=.lst 0 [] true:=by
  rcases hB with ⟨q,_,_⟩ | ⟨bb,ver,frz,_,_,_,_,q⟩
  ·exact q
  ·simp at q
 subst hbuf
 obtain ⟨h2,F2,e2,w2⟩:=z25 (n:=m) (by omega) hb1 rfl ht k h0 h1
 refine ⟨h2,F2,?_,w2.1,k1.trans w2.2.1 (fun x hx=>.inl hx),fun x hx=>(w2.2.2 x hx).imp id fun q=>Nat.le_trans k1.1 q⟩
 refine za2 F217 rfl rfl ?_
 conv=>whnf
 refine clI ec ?_
 conv=>whnf
 refine brd (fun a=>absurd a (by omega)) (fun a=>?_)
 conv=>whnf
 refine ldI hb1 ?_
 conv=>whnf
 refine ⟨0,rfl,?_⟩
 conv=>whnf
 refine ldI hb1 ?_
 conv=>whnf
 refine zI (z:=0) (by rfl) ?_
 conv=>whnf
 refine brd (fun a=>?_) (fun a=>absurd (by omega) a)
 conv=>whnf
 refine clI e2 ?_
 exact ⟨rfl,[],rfl,rfl,rfl⟩
def zau (k:Nat):Str:=List.replicate k 0
theorem zaw (k:Nat):(zau k).length=k:=by simp [zau]
theorem zvf (hn:4 ≤ n) (k:Nat) (hk:k ≤ 4096):C n 177 [.str [0],i64 k] h=some (.ret (.str (zau k)),h):=by
 obtain ⟨m,rfl⟩:=pre1 n
 refine zak F177 rfl rfl rfl rfl ?_
 conv=>whnf
 refine bre (fun a=>?_) (fun a=>?_)
 ·have:k=0:=by omega
  subst this
  conv=>whnf
  exact retP rfl (zht rfl)
 conv=>whnf
 refine bre (fun a1=>?_) (fun a1=>?_)
 ·have:k=1:=by omega
  subst this
  conv=>whnf
  exact retP rfl (zht rfl)
 have hk2:2 ≤ k:=by omega
 conv=>whnf
 refine zI (z:=1) (by rfl) ?_
 conv=>whnf
 refine zI (zif (by omega) (by omega)) ?_
 conv=>whnf
 refine clI (mul_eq (by omega) k (by omega) (by omega)) ?_
 conv=>whnf
 refine brd (fun a3=>absurd a3 (by omega)) (fun a3=>?_)
 conv=>whnf
 refine zI (zad (by omega) (by omega)) ?_
 conv=>whnf
 refine strI (b:=0) (by omega) (by rfl) ?_
 conv=>whnf
 refine brd (fun a4=>absurd a4 (by omega)) (fun a4=>?_)
 conv=>whnf
 obtain ⟨h2,F2,e2,w2⟩:=zx8 (n:=m) (hp:=([]:zaa)++[AB.cells 0 (some tBld) [.nilp,.lst 0 [] true] 0]) (b:=0) (by omega) rfl k (by omega) (by omega)
 refine clI e2 ?_
 obtain ⟨h3,F3,e3,w3⟩:=zbi (n:=m) (by omega) w2.1 [0] (by simp)
 conv=>whnf
 refine clI e3 ?_
 conv=>whnf
 refine za7 (by decide) rfl (α:=Nat × List Nat × zaa) (fun x=>⟨[(7,i64 k),(8,i64 k),(9,.ptr 0 0 0)],x.2.2,[]⟩) (fun x=>(1 ≤ x.1 ∧ x.1 ≤ k) ∧ BW x.2.2 0 (zau x.1) x.2.1) (fun x=>k-x.1) (1,F3,h3) ⟨⟨rfl,rfl,rfl⟩,rfl,rfl⟩ ⟨⟨Nat.le_refl _,by omega⟩,w3.1⟩ (by show k-1<KK;simp only [KK];omega) ?_
 rintro ⟨c,G,hp⟩ ⟨⟨g1,g2⟩,g3⟩
 simp only at g1 g2 g3
 conv=>whnf
 refine clI (zly (n:=m) (by omega) g3) ?_
 conv=>whnf
 have el:((zau c).length:Int)=(c:Int):=by rw [zaw]
 rw [el]
 refine brd (fun a5=>?_) (fun a5=>?_)
 ·have hc:c<k:=by omega
  conv=>whnf
  refine clI (zly (n:=m) (by omega) g3) ?_
  conv=>whnf
  rw [el]
  refine zI (zad (by omega) (by omega)) ?_
  conv=>whnf
  refine clI (zly (n:=m) (by omega) g3) ?_
  conv=>whnf
  rw [el]
  refine ⟨_,(show mm2 false (mm2 false ((k:Int)-c) c) k=((min (k-c) c:Nat):Int) from ?_),?_⟩
  ·unfold mm2
   simp only [cond_false]
   repeat' split
   all_goals omega
  obtain ⟨h4,e4,w4⟩:=zfq (n:=m) (by omega) g3 (by intro e;have:=congrArg List.length e;rw [zaw] at this;simp at this;omega) (by rw [zaw];omega)
  conv=>whnf
  refine clI e4 ?_
  conv=>whnf
  refine zu0 (c:=min (k-c) c) (by rw [zaw];omega) ?_
  have et:(zau c).take (min (k-c) c)=zau (min (k-c) c):=by unfold zau;rw [List.take_replicate];congr 1;omega
  obtain ⟨h5,F5,e5,w5⟩:=zbi (n:=m) (by omega) w4.1 (zau (min (k-c) c)) (by rw [zaw,zaw];omega)
  conv=>whnf
  refine clI (by rw [et];exact e5) ?_
  conv=>whnf
  refine nxI (c+min (k-c) c,F5,h5) ⟨⟨by omega,by omega⟩,?_⟩ (by simp only;omega) ⟨⟨rfl,rfl,rfl⟩,rfl,rfl⟩
  have:=w5.1
  unfold zau at this ⊢
  rwa [List.replicate_append_replicate] at this
 ·have hc:c=k:=by omega
  subst hc
  obtain ⟨h4,e4,w4⟩:=zfq (n:=m) (by omega) g3 (by intro e;have:=congrArg List.length e;rw [zaw] at this;simp at this;omega) (by rw [zaw];omega)
  conv=>whnf
  refine cutI (by decide) rfl (t:=⟨[(9,.ptr 0 0 0)],hp,[]⟩) ⟨rfl,rfl,rfl⟩ ?_
  conv=>whnf
  refine clI e4 ?_
  conv=>whnf
  exact retP rfl (zht rfl)
end
theorem zvc {e:Entry}{lv:Int}(hv:if lv=0 then zaz e≠0 else zbq e=true) (h0:0 ≤ lv):zde e lv=true ∧ (((zhk e lv).length:Nat):Int)+e.key.length+3=zer e lv:=by
 by_cases hl:lv=0
 ·subst hl
  rw [if_pos rfl] at hv
  refine ⟨zkt hv,?_⟩
  have hf:zaz e=1 ∨ zaz e=2 ∨ zaz e=3:=by
   have:zaz e=0 ∨ zaz e=1 ∨ zaz e=2 ∨ zaz e=3:=by
    unfold zaz
    repeat' (first | split)
    all_goals simp
   omega
  have f0:¬ (0:Int)<0:=by omega
  unfold zer zhk
  rcases hf with hf | hf | hf
  ·have hs:zei e=true:=by
    have hf':=hf
    by_cases q:zei e=true
    ·exact q
    ·unfold zaz at hf'
     simp only [q,if_false] at hf'
     repeat' split at hf'
     all_goals simp_all
   simp [zei] at hs
   obtain ⟨⟨⟨⟨⟨g1,g2⟩,g3⟩,g4⟩,_⟩,g5⟩:=hs
   have f1:¬ 0<e.over:=by omega
   have f2:¬ 0<e.child:=by omega
   simp only [f0,f1,f2,if_false,hf,if_true]
   simp [zal];omega
  ·have hs:zjh e=true:=by
    by_cases q:zjh e=true
    ·exact q
    ·unfold zaz at hf
     simp only [q,if_false] at hf
     repeat' split at hf
     all_goals simp_all
   simp [zjh,za6,za3] at hs
   have f1:0<e.over:=by omega
   simp only [f0,f1,if_false,hf,if_true]
   simp [zal,Dg.bytes_len];omega
  ·have hs:zjg e=true:=by
    by_cases q:zjg e=true
    ·exact q
    ·unfold zaz at hf
     simp only [q,if_false] at hf
     repeat' split at hf
     all_goals simp_all
   simp [zjg,za6,za3] at hs
   have f1:¬ 0<e.over:=by omega
   have f2:0<e.child:=by omega
   simp only [f0,f1,f2,if_false,hf,if_true]
   simp [zal,Dg.bytes_len];omega
 ·rw [if_neg hl] at hv
  have hp:0<lv:=by omega
  refine ⟨by simp [zde,hp,hv],?_⟩
  unfold zer zhk
  rw [if_pos hp,if_pos hp]
  simp [zal,Dg.bytes_len];omega
def cuts (l:List Entry) (lv:Int):Nat → Nat
 | 0=>0
 | k+1=>cuts l lv k+zdx l lv k
theorem zoz (l:List Entry) (lv:Int) {i:Nat}:∀ {k:Nat},i<k → zdx l lv i ≤ cuts l lv k
 | 0,h=>by omega
 | k+1,h=>by
  simp only [cuts]
  by_cases e:i=k
  ·subst e;omega
  ·have:=zoz l lv (i:=i) (k:=k) (by omega);omega
theorem zhh {l:List Entry}{lv:Int}(hv:zdf l lv=true) {j:Nat}(hj:j<l.length):(if lv=0 then zaz l[j]≠0 else zbq l[j]=true) ∧ (lv=0 ∨ j=0 ∨ l[j].key≠[]) ∧ (j=0 ∨ cmpS l[j-1].key l[j].key<0):=by
 obtain ⟨h1,h2,h3,h4⟩:=valid_iff.1 hv
 have:=h4 j hj
 rw [zir hj] at this
 by_cases e0:lv=0
 ·subst e0
  simp at this
  exact ⟨by rw [if_pos rfl];exact this.1,.inl rfl,this.2⟩
 ·simp [e0] at this
  exact ⟨by rw [if_neg e0];exact this.1.1,.inr this.1.2,this.2⟩
theorem zgk {l:List Entry}{lv:Int}(hv:zdf l lv=true):∀ k,k ≤ l.length → ∃ s,wsum lv (l.take k)=some s ∧ (((zea l lv k).length:Nat):Int)+2*k+cuts l lv k=s
 | 0,_=>⟨0,by simp [wsum],by simp [zea,cuts]⟩
 | k+1,hk=>by
  obtain ⟨s,h1,h2⟩:=zgk hv k (by omega)
  have hk':k<l.length:=by omega
  have hf:=(zhh hv hk').1
  obtain ⟨g1,g2⟩:=zvc hf (valid_iff.1 hv).1.1
  have hw:=zip hk' h1
  rw [if_pos g1] at hw
  refine ⟨_,hw,?_⟩
  have hc:=zr8 (lv:=lv) hk'
  rw [zd9 l lv hk',List.length_append]
  unfold entB
  simp only [List.length_append,zal,List.length_drop,cuts]
  omega
theorem zg2 {tree lv:Int}{top:Bool}{l:List Entry}{base:Nat}(hf:fits l lv=true):(zkl tree lv top l base).length ≤ 496 ∧ zdf l lv=true ∧ l.length ≤ 98:=by
 unfold fits at hf
 simp only [Bool.and_eq_true] at hf
 obtain ⟨hv,hw⟩:=hf
 obtain ⟨⟨q1,q2⟩,hne,q3,_⟩:=valid_iff.1 hv
 obtain ⟨s,h1,h2⟩:=zgk hv l.length (Nat.le_refl _)
 rw [List.take_length] at h1
 have hws:zgo l lv=some (6+s):=by unfold zgo;rw [if_pos (within_iff.2 ⟨q1,q2⟩),h1];rfl
 rw [hws] at hw
 simp at hw
 have hpos:0<l.length:=by cases l with | nil=>exact (hne rfl).elim | cons=>simp
 have hcut:(shared l lv).length ≤ cuts l lv l.length:=by
  have h3:=zoz l lv (i:=l.length-1) (k:=l.length) (by omega)
  unfold zdx at h3
  rw [if_neg (by omega)] at h3
  exact h3
 have hents:5*(l.length:Int) ≤ s:=by
  have:∀ k,k ≤ l.length → ∀ s,wsum lv (l.take k)=some s → 5*(k:Int) ≤ s:=by
   intro k
   induction k with
   | zero=>intro _ s h;simp [wsum] at h;omega
   | succ k ih =>
    intro hk s h
    obtain ⟨s',g1,_⟩:=zgk hv k (by omega)
    have hf:=(zhh hv (show k<l.length by omega)).1
    have g2:=(zvc hf q1).1
    have hw:=zip (show k<l.length by omega) g1
    rw [if_pos g2,h] at hw
    have:=ih (by omega) s' g1
    have:=(ziq g2).1
    have:=Option.some.inj hw
    omega
  exact this l.length (Nat.le_refl _) s (by rw [List.take_length];exact h1)
 refine ⟨?_,hv,by omega⟩
 unfold zkl
 simp only [List.length_append,zal,zfa]
 omega
theorem zgi:∀ (l:List Freed),((zbg l).length:Int)+6=zbo l
 | []=>by simp [zbg,zbo]
 | f::r=>by
  have h1:=zgi r
  have h2:=zll f
  simp only [zbg,zbo,List.flatMap_cons,List.map_cons,List.sum_cons,List.length_append] at h1 ⊢
  omega
theorem zhu {l:List Freed}(h:zek l=true) {j:Nat}(hj:j<l.length):(0 ≤ l[j].ver ∧ l[j].ver ≤ 1099511627776) ∧ l[j].pages≠[] ∧ (j=0 ∨ l[j-1].ver<l[j].ver) ∧ zkj l[j].pages=true:=by
 have:=List.all_eq_true.1 h j (List.mem_range.2 hj)
 rw [zmt hj] at this
 simp [za3] at this
 exact ⟨this.1.1,this.1.2.1,this.1.2.2,this.2⟩
theorem zmg {l:List Int}(h:zkj l=true) {j:Nat}(hj:j<l.length):(2 ≤ l[j] ∧ l[j] ≤ 4095) ∧ (j=0 ∨ l[j-1]<l[j]):=by
 have:=List.all_eq_true.1 h j (List.mem_range.2 hj)
 rw [zii hj] at this
 simp [za6,za3] at this
 exact this
def Page.bodyB (p:Page):Str:=if p.kind=3 then zh3 p.next p.data else if p.kind=4 then zn7 p.next p.freed else zkl p.tree p.level p.top p.entries 12
def Page.headB (p:Page):Str:=85::(num p.kind.toNat 1++(num p.no.toNat 4++num p.ver.toNat 6))
def Page.used (p:Page):Str:=p.headB++p.bodyB
def Page.full (p:Page):Str:=p.used++zau (508-p.used.length)
def Page.enc (p:Page):Str:=p.full++crcB p.full
theorem zfh (p:Page):p.headB.length=12:=by simp [Page.headB,zal]
theorem check_iff {p:Page}:p.check=true ↔ (2 ≤ p.no ∧ p.no ≤ 4095) ∧ (0 ≤ p.ver ∧ p.ver ≤ 1099511627776) ∧
  (((p.kind=1 ∨ p.kind=2) ∧ (0 ≤ p.tree ∧ p.tree ≤ 255) ∧ (p.kind=1 ↔ p.level=0) ∧ fits p.entries p.level=true ∧ p.next=0 ∧ p.data=[] ∧ p.freed=[]) ∨
  (p.kind=3 ∧ p.plain=true ∧ zh5 p.next=true ∧ (1 ≤ p.data.length ∧ p.data.length ≤ 490) ∧ p.freed=[]) ∨
  (p.kind=4 ∧ p.plain=true ∧ zh5 p.next=true ∧ p.data=[] ∧ zek p.freed=true ∧ zbo p.freed ≤ 496)):=by
 unfold Page.check
 simp only [Bool.and_eq_true,za6,za3,decide_eq_true_eq]
 by_cases h1:p.kind=1 ∨ p.kind=2
 ·have h3:p.kind≠3:=by omega
  have h4:p.kind≠4:=by omega
  simp only [h1,h3,h4,if_true,false_and,or_false,true_and]
  have e:(((p.kind==1)==(p.level==0))=true) ↔ (p.kind=1 ↔ p.level=0):=by
   have e1:(p.kind==1)=decide (p.kind=1):=rfl
   have e2:(p.level==0)=decide (p.level=0):=rfl
   rw [e1,e2]
   by_cases a:p.kind=1<;>by_cases b:p.level=0<;>simp [a,b]
  simp [e]
 ·by_cases h3:p.kind=3
  ·simp [h3,za3]
   omega
  ·by_cases h4:p.kind=4
   ·simp [h4]
   ·simp [h1,h3,h4]
theorem zd2 {k:Int}(h:zh5 k=true):0 ≤ k ∧ k ≤ 4095:=by
 simp [zh5,za6,za3] at h;omega
theorem zxo {p:Page}(hc:p.check=true):p.bodyB.length ≤ 496:=by
 obtain ⟨_,_,h⟩:=check_iff.1 hc
 unfold Page.bodyB
 rcases h with ⟨h1,_,_,h2,_⟩ | ⟨h1,_,_,h2,_⟩ | ⟨h1,_,_,_,_,h2⟩
 ·rw [if_neg (by omega),if_neg (by omega)];exact (zg2 h2).1
 ·rw [if_pos h1];simp [zh3,zal];omega
 ·rw [if_neg (by omega),if_pos h1]
  have:=zgi p.freed
  simp only [zn7,List.length_append,zal];omega
theorem zq8 {p:Page}(hc:p.check=true):p.used.length ≤ 508:=by
 have:=zxo hc
 unfold Page.used
 rw [List.length_append,zfh];omega
theorem zf0 {p:Page}(hc:p.check=true):p.full.length=508:=by
 have:=zq8 hc
 unfold Page.full
 rw [List.length_append,zaw];omega
theorem zql {p:Page}(hc:p.check=true):p.enc.length=512:=by
 unfold Page.enc
 rw [List.length_append,zf0 hc];rfl
section
variable {n:Nat}{h:zaa}
theorem ztp (hn:9 ≤ n) (p:Page) (ok:p.Ok) (hc:p.check=false):C n 119 [p.av] h=some (.ret (.tup [.str [],i64 2]),h):=by
 obtain ⟨m,rfl⟩:=pre1 n
 have ec:∀ h,C m 143 [p.av] h=some (.ret (i64 2),h):=fun h=>by rw [zm2 (by omega) p ok,hc];rfl
 refine zak F119 rfl rfl rfl (by simp [zan,zcs]) ?_
 conv=>whnf
 refine ldI (by rfl) ?_
 conv=>whnf
 refine clI (ec _) ?_
 conv=>whnf
 exact retP rfl rfl
theorem zqk (hn:9 ≤ n) (p:Page) (ok:p.Ok) (hc:p.check=true):C n 119 [p.av] h=some (.ret (.tup [.str p.enc,i64 0]),h):=by
 obtain ⟨m,rfl⟩:=pre1 n
 have ec:∀ h,C m 143 [p.av] h=some (.ret (i64 0),h):=fun h=>by rw [zm2 (by omega) p ok,hc];rfl
 obtain ⟨⟨n1,n2⟩,⟨v1,v2⟩,kinds⟩:=check_iff.1 hc
 have hk:1 ≤ p.kind ∧ p.kind ≤ 4:=by rcases kinds with ⟨h,_⟩ | ⟨h,_⟩ | ⟨h,_⟩<;>omega
 refine zak F119 rfl rfl rfl (by simp [zan,zcs]) ?_
 conv=>whnf
 refine ldI (by rfl) ?_
 conv=>whnf
 refine clI (ec _) ?_
 have e1:(([]:zaa)++[AB.cells 0 (some 79) p.cells 0]++[AB.cells 0 (some tWri) [.nilp,.lst 0 [] true] 0])[0]?=some (.cells 0 (some 79) p.cells 0):=rfl
 have w1:BW (([]:zaa)++[AB.cells 0 (some 79) p.cells 0]++[AB.cells 0 (some tWri) [.nilp,.lst 0 [] true] 0]) 1 [] [1]:=⟨_,_,_,rfl,.inl rfl,.inr rfl,.inl ⟨rfl,rfl,rfl⟩⟩
 have ne1:0 ∉ [1]:=by simp
 conv=>whnf
 refine byteC (n:=m) (hp:=([]:zaa)++[AB.cells 0 (some 79) p.cells 0]++[AB.cells 0 (some tWri) [.nilp,.lst 0 [] true] 0]) (by omega) w1 85 (by simp) fun h2 F2 w2=>?_
 have e2:=(w2.keep e1 ne1).1
 have ne2:=(w2.keep e1 ne1).2
 conv=>whnf
 refine ldI e2 ?_
 conv=>whnf
 refine numC (n:=m) (hp:=h2) (by omega) w2.1 p.kind (by omega) 1 (by omega) (by simp) fun h3 F3 w3=>?_
 have e3:=(w3.keep e2 ne2).1
 have ne3:=(w3.keep e2 ne2).2
 conv=>whnf
 refine ldI e3 ?_
 conv=>whnf
 refine numC (n:=m) (hp:=h3) (by omega) w3.1 p.no (by omega) 4 (by omega) (by simp [zal]) fun h4 F4 w4=>?_
 have e4:=(w4.keep e3 ne3).1
 have ne4:=(w4.keep e3 ne3).2
 conv=>whnf
 refine ldI e4 ?_
 conv=>whnf
 refine numC (n:=m) (hp:=h4) (by omega) w4.1 p.ver (by omega) 6 (by omega) (by simp [zal]) fun h5 F5 w5=>?_
 have e5:=(w5.keep e4 ne4).1
 have ne5:=(w5.keep e4 ne4).2
 have hb:BW h5 1 p.headB F5:=by
  have:=w5.1
  simpa [Page.headB,List.append_assoc] using this
 conv=>whnf
 refine ldI e5 ?_
 conv=>whnf
 have fin:∀ (s':LS) (h6:zaa) (F6:List Nat),Wrote h5 h6 1 F5 F6 p.used → LS.sub ⟨[(4,.ptr 1 0 0)],h6,[]⟩ s' → OkR Tryz.prog (C m) cfg0.inl KK 45 6 (zew c119) s' (RetQ Tryz.prog [.tmp 2,.tmp 3] fun v' h'=>frz h' 64 v'=some (.tup [.str p.enc,i64 0])):=by
  intro s' h6 F6 w6 hs'
  have hul:=zq8 hc
  have w6':=w6.1
  refine cutI (by decide) rfl hs' ?_
  conv=>whnf
  refine clI (zly (n:=m) (by omega) w6') ?_
  conv=>whnf
  refine zI (z:=((508-p.used.length:Nat):Int)) (by rw [zad (by omega) (by omega)];omega) ?_
  conv=>whnf
  refine clI (zvf (n:=m) (by omega) (508-p.used.length) (by omega)) ?_
  conv=>whnf
  refine strC (n:=m) (hp:=h6) (by omega) w6' (zau (508-p.used.length)) (by rw [zaw];omega) fun h7 F7 w7=>?_
  have hfl:=zf0 hc
  obtain ⟨h8,e8,w8⟩:=zfq (n:=m) (by omega) w7.1 (by intro q;have:=congrArg List.length q;rw [show p.used++zau (508-p.used.length)=p.full from rfl,hfl] at this;simp at this) (by rw [show p.used++zau (508-p.used.length)=p.full from rfl,hfl];omega)
  conv=>whnf
  refine clI e8 ?_
  conv=>whnf
  refine clI (zmy (n:=m) (by omega) p.full (by omega)) ?_
  conv=>whnf
  exact retP rfl rfl
 have hbo:=z3m (n:=m) (h:=h5) (by omega) p
 rcases kinds with ⟨k1,_,_,hf,_⟩ | ⟨k1,_,hl,⟨_,hd⟩,_⟩ | ⟨k1,_,hl,_,hfr,hli⟩
 ·have kb:p.body=.ifc 296 (.agg (zfc p.tree p.level p.top p.entries p.esh.sz p.esh.c)):=by unfold Page.body;rw [if_neg (by omega),if_neg (by omega)]
  have kB:p.bodyB=zkl p.tree p.level p.top p.entries 12:=by unfold Page.bodyB;rw [if_neg (by omega),if_neg (by omega)]
  obtain ⟨_,hv,h98⟩:=zg2 (tree:=0) (top:=true) (base:=0) hf
  obtain ⟨h6,F6,e6,w6⟩:=z2m (n:=m) (by omega) hb p.tree p.level p.top (by rcases check_iff.1 hc with ⟨_,_,⟨_,⟨q,_⟩,_⟩ | ⟨q,_⟩ | ⟨q,_⟩⟩<;>omega) p.entries p.esh.sz ok.esz p.esh.c hv (by omega) (by rw [zfh];omega)
  rw [kb] at hbo
  refine clI hbo ?_
  conv=>whnf
  refine ivI (by kernel_rfl) (by kernel_rfl) e6 ?_
  rw [zfh] at w6
  exact fin _ h6 F6 (by unfold Page.used;rw [kB];exact w6) ⟨rfl,rfl,rfl⟩
 ·have kb:p.body=.ifc 292 (.agg [i64 p.next,.str p.data]):=by unfold Page.body;rw [if_pos k1]
  have kB:p.bodyB=zh3 p.next p.data:=by unfold Page.bodyB;rw [if_pos k1]
  obtain ⟨h6,F6,e6,w6⟩:=zzi (n:=m) (by omega) hb p.next (zd2 hl).1 p.data (by rw [zfh];omega)
  rw [kb] at hbo
  refine clI hbo ?_
  conv=>whnf
  refine ivI (by kernel_rfl) (by kernel_rfl) e6 ?_
  exact fin _ h6 F6 (by unfold Page.used;rw [kB];exact w6) ⟨rfl,rfl,rfl⟩
 ·have kb:p.body=.ifc 294 (.agg [i64 p.next,.lst p.fsh.sz (p.freed.map Freed.av) p.fsh.c]):=by unfold Page.body;rw [if_neg (by omega),if_pos k1]
  have kB:p.bodyB=zn7 p.next p.freed:=by unfold Page.bodyB;rw [if_neg (by omega),if_pos k1]
  have hfl:=zgi p.freed
  have hfn:(p.freed.length:Int)*8 ≤ zbo p.freed:=by
   have:∀ l:List Freed,(l.length:Int)*8 ≤ zbo l:=by
    intro l
    induction l with
    | nil=>simp [zbo]
    | cons f r ih=>simp only [zbo,List.map_cons,List.sum_cons,List.length_cons] at ih ⊢;omega
   exact this _
  obtain ⟨h6,F6,e6,w6⟩:=z2w (n:=m) (by omega) hb p.next (zd2 hl).1 p.freed p.fsh.sz ok.fsz p.fsh.c (fun f hf=>by
   obtain ⟨j,hj,rfl⟩:=List.getElem_of_mem hf
   obtain ⟨q1,_,_,q2⟩:=zhu hfr hj
   refine ⟨(ok.fr _ hf).1,q1.1,fun k hk=>?_⟩
   obtain ⟨i,hi,rfl⟩:=List.getElem_of_mem hk
   have:=(zmg q2 hi).1
   omega) (by rw [zfh];omega)
  rw [kb] at hbo
  refine clI hbo ?_
  conv=>whnf
  refine ivI (by kernel_rfl) (by kernel_rfl) e6 ?_
  exact fin _ h6 F6 (by unfold Page.used;rw [kB];exact w6) ⟨rfl,rfl,rfl⟩
theorem zw4 (hn:9 ≤ n) (p:Page) (ok:p.Ok):C n 119 [p.av] h=some (.ret (.tup [.str (if p.check then p.enc else []),i64 (if p.check then 0 else 2)]),h):=by
 cases hc:p.check with
 | true=>exact zqk hn p ok hc
 | false=>exact ztp hn p ok hc
end
def zf8 (s:Str):Bool:=decide (s.length=512)&&(decide (s.getD 0 0=85)&&(decide (s.take 508++crcB (s.take 508)=s)&&za3 ((s.getD 1 0).toNat:Int) 1 4))
def zbr:List AV:=[i64 0,i64 0,i64 0,i64 0,i64 0,.bool false,.lst 0 [] true,i64 0,.str [],.lst 0 [] true]
section
variable {n:Nat}{h:zaa}
theorem zup (c:UInt8):((c.toNat:Int)=85) ↔ c=85:=by
 constructor
 ·intro h;exact UInt8.toNat_inj.1 (by simpa using (by omega:c.toNat=85))
 ·rintro rfl;rfl
theorem zz5 (hn:4 ≤ n) (s:Str) (hb:zf8 s=false):C n 205 [.str s] h=some (.ret (.tup [i64 0,i64 0,i64 0,i64 8]),h):=by
 obtain ⟨m,rfl⟩:=pre1 n
 refine zak F205 rfl rfl rfl rfl ?_
 have fin:∀ {L:LT}{hp:zaa},lk L 2=some (i64 0) → lk L 3=some (i64 0) → lk L 4=some (i64 0) → lk L 5=some (i64 8) → RetQ Tryz.prog [.tmp 2,.tmp 3,.tmp 4,.tmp 5] (fun v' h'=>frz h' 64 v'=some (.tup [i64 0,i64 0,i64 0,i64 8])) .ret ⟨L,hp,[]⟩:=fun {L hp} h2 h3 h4 h5=>⟨rfl,[i64 0,i64 0,i64 0,i64 8],by simp [zb3,h2,h3,h4,h5],rfl⟩
 conv=>whnf
 refine brq (fun a=>?_) (fun a=>?_)
 ·conv=>whnf
  exact fin rfl rfl rfl rfl
 have hl:s.length=512:=by omega
 have e0:s.getD 0 0=s[0]'(by omega):=by simp [hl]
 have e1:s.getD 1 0=s[1]'(by omega):=by simp [hl]
 conv=>whnf
 refine strI (b:=s[0]'(by omega)) (by omega) (List.getElem?_eq_getElem (by omega)) ?_
 conv=>whnf
 refine brq (fun a0=>?_) (fun a0=>?_)
 ·conv=>whnf
  exact fin rfl rfl rfl rfl
 rw [zup] at a0
 conv=>whnf
 refine zu0 (c:=508) (by omega) ?_
 conv=>whnf
 refine clI (zmy (n:=m) (by omega) (s.take 508) (by rw [List.length_take];omega)) ?_
 conv=>whnf
 refine br (fun a2=>?_) (fun a2=>?_)
 ·conv=>whnf
  exact fin rfl rfl rfl rfl
 have a2':s.take 508++crcB (s.take 508)=s:=by simpa using a2
 conv=>whnf
 refine strI (b:=s[1]'(by omega)) (by omega) (List.getElem?_eq_getElem (by omega)) ?_
 conv=>whnf
 refine zI (z:=((s[1]'(by omega)).toNat:Int)) (by have:=(s[1]'(by omega)).toNat_lt;exact zad (by omega) (by omega)) ?_
 conv=>whnf
 refine clI (zcc (by omega) _ _ _) ?_
 conv=>whnf
 refine brn (fun a3=>?_) (fun a3=>?_)
 ·conv=>whnf
  exact fin rfl rfl rfl rfl
 ·exfalso
  unfold zf8 at hb
  rw [e0,e1,a0,a3] at hb
  simp [hl,a2'] at hb
set_option maxRecDepth 10000 in
theorem zts (hn:5 ≤ n) (s:Str) (hb:zf8 s=false):C n 162 [.str s] h=some (.ret (.tup [.agg zbr,i64 8]),h):=by
 obtain ⟨m,rfl⟩:=pre1 n
 refine zak F162 rfl rfl rfl rfl ?_
 conv=>whnf
 refine clI (zz5 (n:=m) (by omega) s hb) ?_
 conv=>whnf
 refine stJ (xs:=zbr) (by rfl) ?_
 refine ⟨rfl,[.agg zbr,i64 8],?_,rfl⟩
 have el:zbv Tryz.prog [.cells 0 (some 79) zbr 0] 79 (.ptr 0 0 0)=some (.agg zbr):=zbk (N:=10) (by kernel_rfl) rfl rfl
 show (match zbv Tryz.prog [.cells 0 (some 79) zbr 0] 79 (.ptr 0 0 0) with | some v=>some [v,i64 8] | none=>none)=_
 rw [el]
end
def cRec:RC:=match c230 with
 | .seq _ r=>r
 | _=>.skip
theorem D230:DefI 230 2 17 5 [] (some 5) [⟨some 2,none,.op (.mv (.t 5))⟩] cRec :=
 ⟨⟨Tryz.f230,Tryz.func230,by kernel_rfl,by kernel_rfl,by kernel_rfl⟩,by kernel_rfl,by decide,by kernel_rfl,by kernel_rfl,by kernel_rfl⟩
section
variable {m:Nat}{h:zaa}{P I:Nat}
theorem z15:∃ h',zca Tryz.prog (C m) (zcf Tryz.prog cfg0.inl (C m)) KK 230 [.ptr P 0 0,.ptr I 0 0] .ret h=some (.ret,h') ∧ h'=h:=by
 refine zha D230 rfl ?_
 conv=>whnf
 exact ⟨rfl,⟨[],rfl⟩,rfl⟩
theorem z16 {cs:List AV}{b:Bool}(hP:h[P]?=some (.cells 0 (some 79) cs 0)) (hc:cs.length=10) (hI:h[I]?=some (.cells 0 (some 4) [.bool b] 0)) :
  ∃ h',zca Tryz.prog (C m) (zcf Tryz.prog cfg0.inl (C m)) KK 230 [.ptr P 0 0,.ptr I 0 0] (.pan badV false) h=some (.pan badV true,h') ∧ h'[P]?=some (.cells 0 (some 79) zbr 0) ∧ h'[I]?=some (.cells 0 (some 4) [.bool false] 0):=by
 refine zha D230 rfl ?_
 conv=>whnf
 refine stJ (zag _ _) ?_
 have lP:=zac hP
 have lI:=zac hI
 have nPI:P≠I:=by
  rintro rfl
  rw [hP] at hI
  have:=(AB.cells.inj (Option.some.inj hI)).2.1
  exact absurd (Option.some.inj this) (by decide)
 have e1:((h++[AB.cells 0 (some 314) [] 0]).set h.length (AB.cells 0 (some 314) (putAt [] 0 []) 0))[P]?=some (.cells 0 (some 79) cs 0):=by
  rw [List.getElem?_set_ne (by omega),List.getElem?_append_left lP];exact hP
 have e2:((h++[AB.cells 0 (some 314) [] 0]).set h.length (AB.cells 0 (some 314) (putAt [] 0 []) 0))[I]?=some (.cells 0 (some 4) [.bool b] 0):=by
  rw [List.getElem?_set_ne (by omega),List.getElem?_append_left lI];exact hI
 have hput:putAt cs 0 zbr=zbr:=by
  unfold putAt
  rw [List.take_zero,List.nil_append,List.drop_of_length_le (by rw [hc];decide),List.append_nil]
 conv=>whnf
 refine stI (xs:=zbr) e1 (by rfl) (by rfl) (by rw [hc];decide) (by rfl) ?_
 conv=>whnf
 refine stJ (cs:=[.bool b]) (by rw [List.getElem?_set_ne nPI];exact e2) ?_
 refine ⟨rfl,⟨[],rfl⟩,?_,?_⟩
 ·rw [List.getElem?_set_ne (Ne.symm nPI),List.getElem?_set_self (zac e1),hput]
 ·rw [List.getElem?_set_self (by rw [List.length_set];exact zac e2)]
  rfl
end
inductive Bdy where
 | nd (x:NodeP)
 | pc (x:Nat × Str)
 | ls (x:Nat × List (Nat × List Nat))
def zg1 (k:Nat) (s:Str):Option Bdy:=if k=1 ∨ k=2 then (zc7 s).map fun x=>.nd x.1 else if k=3 then (zdj s).map fun x=>.pc x.1 else (zhn s).map fun x=>.ls x.1
structure Blk where
 kind:Nat
 no:Nat
 ver:Nat
 bd:Bdy
def zeu (s:Str):Option Blk:=(pnum 1 ((s.take 508).drop 1)).bind fun k=>(pnum 4 k.2).bind fun no=>(pnum 6 no.2).bind fun v=>(zg1 k.1 v.2).map fun b=>⟨k.1,no.1,v.1,b⟩
def BdIs (q:Page):Bdy → Prop
 | .nd x=>q.tree=x.tree ∧ q.level=x.lv ∧ q.top=x.top ∧ q.entries=x.es ∧ q.next=0 ∧ q.data=[] ∧ q.freed=[]
 | .pc x=>q.tree=0 ∧ q.level=0 ∧ q.top=false ∧ q.entries=[] ∧ q.next=x.1 ∧ q.data=x.2 ∧ q.freed=[]
 | .ls x=>q.tree=0 ∧ q.level=0 ∧ q.top=false ∧ q.entries=[] ∧ q.next=x.1 ∧ q.data=[] ∧ FsAre q.freed x.2
structure BlkIs (q:Page) (x:Blk):Prop where
 kind:q.kind=x.kind
 no:q.no=x.no
 ver:q.ver=x.ver
 bd:BdIs q x.bd
 esz:q.entries≠[] → q.esh.sz=22
 fsz:q.freed≠[] → q.fsh.sz=2
def zx6 (s:Str) (r:CRes):Prop:=match zeu s with
 | none=>r=.ret (.tup [.agg zbr,.bool false])
 | some x=>∃ q:Page,r=.ret (.tup [q.av,.bool true]) ∧ BlkIs q x
theorem gs {h:zaa}{x y:Nat}{v w:AB}(e:h[x]?=some v) (n:y≠x):(h.set y w)[x]?=some v:=by rw [List.getElem?_set_ne n];exact e
theorem ge {h:zaa}{x:Nat}{v w:AB}(e:h[x]?=some v):(h.set x w)[x]?=some w:=List.getElem?_set_self (zac e)
theorem zen {xs:List AV}(h:xs.all AV.scal=true):AV.cells? (.agg xs)=some xs:=by
 show (if xs.all AV.scal=true then some xs else none)=_
 rw [if_pos h]
theorem zmh {a b c d e g:Int}{f:Bool}{t:Str}{L L':AV}(h1:L.scal=true) (h2:L'.scal=true):AV.cells? (.agg [i64 a,i64 b,i64 c,i64 d,i64 e,.bool f,L,i64 g,.str t,L'])=some [i64 a,i64 b,i64 c,i64 d,i64 e,.bool f,L,i64 g,.str t,L']:=zen (by simp only [List.all_cons,List.all_nil,h1,h2,Bool.and_true];rfl)
theorem GBuf.one {el:TypeId}{sz:Nat}{h:zaa}{X:Nat}{L:AV}{rows:List (List AV)}{G:List Nat}(g:GBuf el sz h X L rows G):L.cells?=some [L] ∧ L.scal=true:=by
 rcases g.2 with ⟨rfl,_⟩ | ⟨eb,ver,frz,rfl,_⟩<;>exact ⟨rfl,rfl⟩
theorem zke {h:zaa}{a b c d e g:Int}{f:Bool}{t:Str}{L M L' M':AV}(h1:Abs.frz h 62 L=some M) (h2:Abs.frz h 62 L'=some M') :
  allM (Abs.frz h 62) [i64 a,i64 b,i64 c,i64 d,i64 e,.bool f,L,i64 g,.str t,L']=some [i64 a,i64 b,i64 c,i64 d,i64 e,.bool f,M,i64 g,.str t,M']:=by
 have fi:∀ k:Int,Abs.frz h 62 (i64 k)=some (i64 k):=fun _=>rfl
 have fb:Abs.frz h 62 (.bool f)=some (.bool f):=rfl
 have fs:Abs.frz h 62 (.str t)=some (.str t):=rfl
 simp only [allM,fi,fb,fs,h1,h2]
theorem zms {h:zaa}:Abs.frz h 62 (.lst 0 [] true)=some (.lst 0 [] true):=rfl
theorem LV.stays' {h h':zaa}{Y b:Nat}{LL:AV}{ts:List FT}{G I:List Nat}(v:LV h Y LL ts G I) (hG:∀ z∈G,b ≤ z) (hI:∀ z∈I,b ≤ z) (e:∀ x,b ≤ x → x<h.length → h'[x]?=h[x]?):LV h' Y LL ts G I:=by
 refine ⟨⟨v.buf.1,?_⟩,fun t ht=>?_⟩
 ·rcases v.buf.2 with r | ⟨eb,ver,frz,h1,h2,h3,h4,rfl⟩
  ·exact .inl r
  ·exact .inr ⟨eb,ver,frz,h1,by rw [e eb (hG eb (by simp)) (zac h2)];exact h2,h3,h4,rfl⟩
 ·rcases v.inr t ht with r | ⟨eb,ver,frz,h1,h2,h3⟩
  ·exact .inl r
  ·exact .inr ⟨eb,ver,frz,h1,by rw [e eb (hI eb h3) (zac h2)];exact h2,h3⟩
structure RS (h:zaa) (cs:List AV) (t:Str):Prop where
 p:h[0]?=some (.cells 0 (some 79) cs 0)
 i:h[1]?=some (.cells 0 (some 4) [.bool false] 0)
 r:RDs h 2 t
theorem RS.next {h h':zaa}{cs:List AV}{t t':Str}(a:RS h cs t) (k:Keep h h' [2]) (r:RDs h' 2 t'):RS h' cs t':=⟨k.get a.p (by simp),k.get a.i (by simp),r⟩
theorem RS.set {h:zaa}{cs cs':List AV}{t:Str}(a:RS h cs t):RS (h.set 0 (.cells 0 (some 79) cs' 0)) cs' t:=⟨ge a.p,gs a.i (by decide),a.r.stays (Keep.set (F:=[0]) (by simp)) (by simp)⟩
section
variable {m:Nat}{s:Str}
abbrev zm8 (m:Nat) (s:Str):Ex → LS → Prop:=EndQ Tryz.prog (C m) cfg0.inl [.cell 2 79,.cell 3 4] (fun r h=>∃ r',OutR r' r h ∧ zx6 s r')
abbrev dfR:List DI:=[.fn 230 [.ptr 0 0 0,.ptr 1 0 0]]
theorem zr3:fnOk Tryz.prog 230=true:=D230.fine
theorem zho {h:zaa}{b:Nat}{cs:List AV}(hl:cs.length=10) (hb:h[b]?=some (.cells 0 (some 79) cs 0)):zbv Tryz.prog h 79 (.ptr b 0 0)=some (.agg cs):=zbk (N:=10) (by kernel_rfl) hl hb
theorem zxn {h:zaa}{b:Nat}{v:AV}(hb:h[b]?=some (.cells 0 (some 4) [v] 0)):zbv Tryz.prog h 4 (.ptr b 0 0)=some v:=zrs (N:=1) (by kernel_rfl) hb
theorem zdc {L:LT}{h:zaa}{cs:List AV}(hn:zeu s=none) (h2:lk L 2=some (.ptr 0 0 0)) (h3:lk L 3=some (.ptr 1 0 0)) (hP:h[0]?=some (.cells 0 (some 79) cs 0)) (hc:cs.length=10) (hI:h[1]?=some (.cells 0 (some 4) [.bool false] 0)):zm8 m s (.pan badV) ⟨L,h,dfR⟩:=by
 obtain ⟨h',e,g1,g2⟩:=z16 (m:=m) hP hc hI
 refine ⟨zr3,_,h',e,[.agg zbr,.bool false],?_,_,⟨_,rfl,rfl⟩,?_⟩
 ·simp only [zb3,h2,h3,zho rfl g1,zxn g2]
 ·unfold zx6
  rw [hn]
  rfl
theorem zi7 {L:LT}{h:zaa}{cs:List AV}(h2:lk L 2=some (.ptr 0 0 0)) (h3:lk L 3=some (.ptr 1 0 0)) (hP:h[0]?=some (.cells 0 (some 79) cs 0)) (hc:cs.length=10) (hI:h[1]?=some (.cells 0 (some 4) [.bool true] 0)) {q:Page}(hf:allM (frz h 62) cs=some q.cells) {x:Blk}(hx:zeu s=some x) (hq:BlkIs q x):zm8 m s .ret ⟨L,h,dfR⟩:=by
 obtain ⟨h',e,rfl⟩:=z15 (m:=m) (h:=h) (P:=0) (I:=1)
 refine ⟨zr3,_,h',e,[.agg cs,.bool true],?_,.ret (.tup [q.av,.bool true]),⟨_,?_,rfl⟩,?_⟩
 ·simp only [zb3,h2,h3,zho hc hP,zxn hI]
 ·show frz h' 64 (.tup [.agg cs,.bool true])=some (.tup [q.av,.bool true])
  have e1:frz h' 63 (.agg cs)=some q.av:=by
   unfold frz
   simp only [hf]
   rfl
  unfold frz allM allM
  simp only [e1]
  rfl
 ·unfold zx6
  rw [hx]
  exact ⟨q,rfl,hq⟩
abbrev zi9 (k no v:Nat):List AV:=[i64 k,i64 no,i64 v,i64 0,i64 0,.bool false,.lst 0 [] true,i64 0,.str [],.lst 0 [] true]
set_option maxRecDepth 10000 in
theorem zva (hn:6 ≤ m) {h3:zaa}{k no v:Nat}{t:Str}(a:RS h3 (zi9 k no v) t) (hk:k=1 ∨ k=2) (hx:zeu s=(zg1 k t).map fun b=>⟨k,no,v,b⟩) :
  OkR Tryz.prog (C m) cfg0.inl KK 61 6 (zew c206) ⟨[(2,.ptr 0 0 0),(3,.ptr 1 0 0),(4,.ptr 2 0 0)],h3,dfR⟩ (zm8 m s):=by
 refine cutS (by decide) rfl ?_
 conv=>whnf
 refine ldI a.p ?_
 obtain ⟨r4,h4,eB,sB⟩:=z2l (n:=m) (by omega) a.r (k:Int) (by omega)
 have l3:=a.r.lt
 conv=>whnf
 cases hp:zc7 t with
 | none =>
  rw [hp] at sB
  obtain ⟨rfl,k4⟩:=sB
  refine clP eB ?_
  exact zdc (by rw [hx];simp only [zg1,if_pos hk,hp,Option.map_none]) rfl rfl (k4.get a.p (by simp)) rfl (k4.get a.i (by simp))
 | some x =>
  obtain ⟨x,u⟩:=x
  rw [hp] at sB
  obtain ⟨X,L,G,rfl,r4,g4,k4,lX,gG⟩:=sB
  have g1:=g4.one
  have lG:=g4.lt lX
  have e0:=k4.get a.p (by simp)
  have eI:=k4.get a.i (by simp)
  have l0:=zac e0
  have l1:=zac eI
  refine clI eB ?_
  conv=>whnf
  refine stI (xs:=[i64 x.tree,i64 x.lv,.bool x.top,L]) (zag _ _) (zen (by simp only [List.all_cons,List.all_nil,g1.2,Bool.and_true];rfl)) (by rfl) (by rfl) (by rfl) ?_
  have es:(h4++[AB.cells 0 (some 296) [i64 0,i64 0,.bool false,.lst 0 [] true] 0]).set h4.length (AB.cells 0 (some 296) (putAt [i64 0,i64 0,.bool false,.lst 0 [] true] 0 [i64 x.tree,i64 x.lv,.bool x.top,L]) 0)=h4++[AB.cells 0 (some 296) [i64 x.tree,i64 x.lv,.bool x.top,L] 0]:=by simp [putAt]
  have fin:∀ hf:zaa,(∀ y∈G,hf[y]?=h4[y]?) → hf[0]?=some (.cells 0 (some 79) [i64 k,i64 no,i64 v,i64 x.tree,i64 x.lv,.bool x.top,L,i64 0,.str [],.lst 0 [] true] 0) → hf[1]?=some (.cells 0 (some 4) [.bool true] 0) → ∀ Lt:LT,lk Lt 2=some (.ptr 0 0 0) → lk Lt 3=some (.ptr 1 0 0) → zm8 m s .ret ⟨Lt,hf,dfR⟩:=fun hf hG hP hI Lt h2 h3=>by
   obtain ⟨sh,f1,f2⟩:=zz7 (g4.stays fun y hy _=>hG y hy) 60
   exact zi7 (x:=⟨k,no,v,.nd x⟩) (q:=⟨k,no,v,x.tree,x.lv,x.top,sh,x.es,0,[],⟨0,true⟩,[]⟩) h2 h3 hP rfl hI (zke f1 zms) (by rw [hx];simp only [zg1,if_pos hk,hp,Option.map_some]) ⟨rfl,rfl,rfl,⟨rfl,rfl,rfl,rfl,rfl,rfl,rfl⟩,f2,fun h=>(h rfl).elim⟩
  have n0:(h4.length:Nat)≠0:=by omega
  have n1:(h4.length:Nat)≠1:=by omega
  have eX:=zae h4 (AB.cells 0 (some 296) [i64 0,i64 0,.bool false,.lst 0 [] true] 0) (AB.cells 0 (some 296) (putAt [i64 0,i64 0,.bool false,.lst 0 [] true] 0 [i64 x.tree,i64 x.lv,.bool x.top,L]) 0)
  have eP:=gs (w:=AB.cells 0 (some 296) (putAt [i64 0,i64 0,.bool false,.lst 0 [] true] 0 [i64 x.tree,i64 x.lv,.bool x.top,L]) 0) (za8 (x:=AB.cells 0 (some 296) [i64 0,i64 0,.bool false,.lst 0 [] true] 0) e0) n0
  have eJ:=gs (w:=AB.cells 0 (some 296) (putAt [i64 0,i64 0,.bool false,.lst 0 [] true] 0 [i64 x.tree,i64 x.lv,.bool x.top,L]) 0) (za8 (x:=AB.cells 0 (some 296) [i64 0,i64 0,.bool false,.lst 0 [] true] 0) eI) n1
  conv=>whnf
  refine ldI eX ?_
  conv=>whnf
  refine ldI eX ?_
  conv=>whnf
  refine ldI eX ?_
  conv=>whnf
  refine ldI eX ?_
  conv=>whnf
  refine stJ eP ?_
  conv=>whnf
  refine ⟨?_,?_⟩
  ·repeat' (conv=>whnf);first | exact ldI (gs eX n0.symm) rfl | refine ⟨?_,?_⟩
  conv=>whnf
  refine stJ (ge eP) ?_
  conv=>whnf
  refine ⟨?_,?_⟩
  ·repeat' (conv=>whnf);first | exact ldI (gs (gs eX n0.symm) n0.symm) rfl | refine ⟨?_,?_⟩
  conv=>whnf
  refine stJ (ge (ge eP)) ?_
  conv=>whnf
  refine ⟨?_,?_⟩
  ·repeat' (conv=>whnf);first | exact ldI (gs (gs (gs eX n0.symm) n0.symm) n0.symm) rfl | refine ⟨?_,?_⟩
  conv=>whnf
  refine stI (ge (ge (ge eP))) g1.1 (by rfl) (by rfl) (by rfl) ?_
  conv=>whnf
  refine ldI (ge (ge (ge (ge eP)))) ?_
  conv=>whnf
  refine stI (xs:=[i64 k,i64 no,i64 v,i64 x.tree,i64 x.lv,.bool x.top,L,i64 0,.str [],.lst 0 [] true]) (ge (ge (ge (ge eP)))) (zmh g1.2 rfl) (by rfl) (by rfl) (by rfl) ?_
  conv=>whnf
  refine stJ (gs (gs (gs (gs (gs eJ (by decide)) (by decide)) (by decide)) (by decide)) (by decide)) ?_
  refine fin _ (fun y hy=>?_) (gs (ge (ge (ge (ge (ge eP))))) (by decide)) (ge (gs (gs (gs (gs (gs eJ (by decide)) (by decide)) (by decide)) (by decide)) (by decide))) _ rfl rfl
  have y1:=gG y hy
  have y2:=lG y hy
  rw [List.getElem?_set_ne (by omega),List.getElem?_set_ne (by omega),List.getElem?_set_ne (by omega),List.getElem?_set_ne (by omega),List.getElem?_set_ne (by omega),List.getElem?_set_ne (by omega),List.getElem?_set_ne (by omega),List.getElem?_append_left y2]
set_option maxRecDepth 10000 in
theorem zsu (hn:6 ≤ m) {h3:zaa}{k no v:Nat}{t:Str}(a:RS h3 (zi9 k no v) t) (hk:k=3) (hx:zeu s=(zg1 k t).map fun b=>⟨k,no,v,b⟩) :
  OkR Tryz.prog (C m) cfg0.inl KK 61 6 (zew c206) ⟨[(2,.ptr 0 0 0),(3,.ptr 1 0 0),(4,.ptr 2 0 0)],h3,dfR⟩ (zm8 m s):=by
 refine cutS (by decide) rfl ?_
 conv=>whnf
 refine ldI a.p ?_
 obtain ⟨r4,h4,eB,sB⟩:=(by rw [hk];exact zzh (n:=m) (by omega) a.r:∃ r h,C m 231 [.ptr 2 0 0,i64 (k:Nat)] h3=some (r,h) ∧ zf7 (zdj t) (zsi h3 2) (fun h=>Keep h3 h [2]) r h)
 have l3:=a.r.lt
 conv=>whnf
 cases hp:zdj t with
 | none =>
  rw [hp] at sB
  obtain ⟨rfl,k4⟩:=sB
  refine clP eB ?_
  exact zdc (by rw [hx];simp only [zg1,if_neg (show ¬(k=1 ∨ k=2) by omega),if_pos hk,hp,Option.map_none]) rfl rfl (k4.get a.p (by simp)) rfl (k4.get a.i (by simp))
 | some x =>
  obtain ⟨x,u⟩:=x
  rw [hp] at sB
  obtain ⟨rfl,r4,k4⟩:=sB
  have l4:=k4.1
  have e0:=k4.get a.p (by simp)
  have eI:=k4.get a.i (by simp)
  have l0:=zac e0
  have l1:=zac eI
  refine clI eB ?_
  conv=>whnf
  refine stI (xs:=[i64 x.1,.str x.2]) (zag _ _) (zen (by simp only [List.all_cons,List.all_nil, Bool.and_true];rfl)) (by rfl) (by rfl) (by rfl) ?_
  have fin:∀ hf:zaa,hf[0]?=some (.cells 0 (some 79) [i64 k,i64 no,i64 v,i64 0,i64 0,.bool false,.lst 0 [] true,i64 x.1,.str x.2,.lst 0 [] true] 0) → hf[1]?=some (.cells 0 (some 4) [.bool true] 0) → ∀ Lt:LT,lk Lt 2=some (.ptr 0 0 0) → lk Lt 3=some (.ptr 1 0 0) → zm8 m s .ret ⟨Lt,hf,dfR⟩:=fun hf hP hI Lt h2 h3=>by
   exact zi7 (x:=⟨k,no,v,.pc x⟩) (q:=⟨k,no,v,0,0,false,⟨0,true⟩,[],x.1,x.2,⟨0,true⟩,[]⟩) h2 h3 hP rfl hI (zke zms zms) (by rw [hx];simp only [zg1,if_neg (show ¬(k=1 ∨ k=2) by omega),if_pos hk,hp,Option.map_some]) ⟨rfl,rfl,rfl,⟨rfl,rfl,rfl,rfl,rfl,rfl,rfl⟩,fun h=>(h rfl).elim,fun h=>(h rfl).elim⟩
  have n0:(h4.length:Nat)≠0:=by omega
  have n1:(h4.length:Nat)≠1:=by omega
  have eX:=zae h4 (AB.cells 0 (some 292) [i64 0,.str []] 0) (AB.cells 0 (some 292) (putAt [i64 0,.str []] 0 [i64 x.1,.str x.2]) 0)
  have eP:=gs (w:=AB.cells 0 (some 292) (putAt [i64 0,.str []] 0 [i64 x.1,.str x.2]) 0) (za8 (x:=AB.cells 0 (some 292) [i64 0,.str []] 0) e0) n0
  have eJ:=gs (w:=AB.cells 0 (some 292) (putAt [i64 0,.str []] 0 [i64 x.1,.str x.2]) 0) (za8 (x:=AB.cells 0 (some 292) [i64 0,.str []] 0) eI) n1
  conv=>whnf
  refine ldI eX ?_
  conv=>whnf
  refine ldI eX ?_
  conv=>whnf
  refine stJ eP ?_
  conv=>whnf
  refine ⟨?_,?_⟩
  ·repeat' (conv=>whnf);first | exact ldI (gs eX n0.symm) rfl | refine ⟨?_,?_⟩
  conv=>whnf
  refine stJ (ge eP) ?_
  conv=>whnf
  refine ldI (ge (ge eP)) ?_
  conv=>whnf
  refine stI (xs:=[i64 k,i64 no,i64 v,i64 0,i64 0,.bool false,.lst 0 [] true,i64 x.1,.str x.2,.lst 0 [] true]) (ge (ge eP)) (zmh rfl rfl) (by rfl) (by rfl) (by rfl) ?_
  conv=>whnf
  refine stJ (gs (gs (gs eJ (by decide)) (by decide)) (by decide)) ?_
  exact fin _ (gs (ge (ge (ge eP))) (by decide)) (ge (gs (gs (gs eJ (by decide)) (by decide)) (by decide))) _ rfl rfl
set_option maxRecDepth 10000 in
theorem zvb (hn:6 ≤ m) {h3:zaa}{k no v:Nat}{t:Str}(a:RS h3 (zi9 k no v) t) (hk:¬(k=1 ∨ k=2)) (hk3:k≠3) (hx:zeu s=(zg1 k t).map fun b=>⟨k,no,v,b⟩) :
  OkR Tryz.prog (C m) cfg0.inl KK 61 6 (zew c206) ⟨[(2,.ptr 0 0 0),(3,.ptr 1 0 0),(4,.ptr 2 0 0)],h3,dfR⟩ (zm8 m s):=by
 refine cutS (by decide) rfl ?_
 conv=>whnf
 refine ldI a.p ?_
 obtain ⟨r4,h4,eB,sB⟩:=z2v (n:=m) (by omega) a.r (k:Int) (by omega) (by omega) (by omega)
 have l3:=a.r.lt
 conv=>whnf
 cases hp:zhn t with
 | none =>
  rw [hp] at sB
  obtain ⟨rfl,k4⟩:=sB
  refine clP eB ?_
  exact zdc (by rw [hx];simp only [zg1,if_neg hk,if_neg hk3,hp,Option.map_none]) rfl rfl (k4.get a.p (by simp)) rfl (k4.get a.i (by simp))
 | some x =>
  obtain ⟨x,u⟩:=x
  rw [hp] at sB
  obtain ⟨Y,LL,ts,G,I,rfl,hts,r4,lv,k4,gG,gI⟩:=sB
  have l4:=k4.1
  have g1:=lv.buf.one
  have e0:=k4.get a.p (by simp)
  have eI:=k4.get a.i (by simp)
  have l0:=zac e0
  have l1:=zac eI
  refine clI eB ?_
  conv=>whnf
  refine stI (xs:=[i64 x.1,LL]) (zag _ _) (zen (by simp only [List.all_cons,List.all_nil,g1.2,Bool.and_true];rfl)) (by rfl) (by rfl) (by rfl) ?_
  have fin:∀ hf:zaa,(∀ y,h3.length ≤ y → y<h4.length → hf[y]?=h4[y]?) → hf[0]?=some (.cells 0 (some 79) [i64 k,i64 no,i64 v,i64 0,i64 0,.bool false,.lst 0 [] true,i64 x.1,.str [],LL] 0) → hf[1]?=some (.cells 0 (some 4) [.bool true] 0) → ∀ Lt:LT,lk Lt 2=some (.ptr 0 0 0) → lk Lt 3=some (.ptr 1 0 0) → zm8 m s .ret ⟨Lt,hf,dfR⟩:=fun hf hE hP hI Lt h2 h3=>by
   obtain ⟨sh,fs,f1,f2,f3⟩:=zz6 (lv.stays' gG gI hE) 59
   rw [← hts] at f3
   exact zi7 (x:=⟨k,no,v,.ls x⟩) (q:=⟨k,no,v,0,0,false,⟨0,true⟩,[],x.1,[],sh,fs⟩) h2 h3 hP rfl hI (zke zms f1) (by rw [hx];simp only [zg1,if_neg hk,if_neg hk3,hp,Option.map_some]) ⟨rfl,rfl,rfl,⟨rfl,rfl,rfl,rfl,rfl,rfl,f3⟩,fun h=>(h rfl).elim,f2⟩
  have n0:(h4.length:Nat)≠0:=by omega
  have n1:(h4.length:Nat)≠1:=by omega
  have eX:=zae h4 (AB.cells 0 (some 294) [i64 0,.lst 0 [] true] 0) (AB.cells 0 (some 294) (putAt [i64 0,.lst 0 [] true] 0 [i64 x.1,LL]) 0)
  have eP:=gs (w:=AB.cells 0 (some 294) (putAt [i64 0,.lst 0 [] true] 0 [i64 x.1,LL]) 0) (za8 (x:=AB.cells 0 (some 294) [i64 0,.lst 0 [] true] 0) e0) n0
  have eJ:=gs (w:=AB.cells 0 (some 294) (putAt [i64 0,.lst 0 [] true] 0 [i64 x.1,LL]) 0) (za8 (x:=AB.cells 0 (some 294) [i64 0,.lst 0 [] true] 0) eI) n1
  conv=>whnf
  refine ldI eX ?_
  conv=>whnf
  refine ldI eX ?_
  conv=>whnf
  refine stJ eP ?_
  conv=>whnf
  refine ⟨?_,?_⟩
  ·repeat' (conv=>whnf);first | exact ldI (gs eX n0.symm) rfl | refine ⟨?_,?_⟩
  conv=>whnf
  refine stI (ge eP) g1.1 (by rfl) (by rfl) (by rfl) ?_
  conv=>whnf
  refine ldI (ge (ge eP)) ?_
  conv=>whnf
  refine stI (xs:=[i64 k,i64 no,i64 v,i64 0,i64 0,.bool false,.lst 0 [] true,i64 x.1,.str [],LL]) (ge (ge eP)) (zmh rfl g1.2) (by rfl) (by rfl) (by rfl) ?_
  conv=>whnf
  refine stJ (gs (gs (gs eJ (by decide)) (by decide)) (by decide)) ?_
  refine fin _ (fun y y1 y2=>?_) (gs (ge (ge (ge eP))) (by decide)) (ge (gs (gs (gs eJ (by decide)) (by decide)) (by decide))) _ rfl rfl
  rw [List.getElem?_set_ne (by omega),List.getElem?_set_ne (by omega),List.getElem?_set_ne (by omega),List.getElem?_set_ne (by omega),List.getElem?_set_ne (by omega),List.getElem?_append_left y2]
theorem z2j {P:Program}{call:zba}{inl:FuncId → Bool}{k n d:Nat}{rc:RC}{Q:Ex → LS → Prop}{s t:LS}(hs:LS.sub t s) (hw:OkR P call inl k n d rc t Q):OkR P call inl k n d rc s Q:=by
 intro c hc tm H
 obtain ⟨e1,e2,e3⟩:=hs
 have:=hw c hc tm (HasL.sub e1 H)
 rw [← e2,← e3] at this
 exact this
set_option maxRecDepth 10000 in
theorem z17 (hn:6 ≤ m) (hl:s.length=512):∃ r,(∀ h,C (m+1) 206 [.str s] h=some (r,h)) ∧ zx6 s r:=by
 refine zjk F206 rfl rfl rfl rfl ?_
 conv=>whnf
 refine ⟨rfl,.fn 230 [.ptr 0 0 0,.ptr 1 0 0],rfl,?_⟩
 conv=>whnf
 refine zu0 (s:=s) (c:=508) (by omega) ?_
 have a0:RS [AB.cells 0 (some 79) zbr 0,AB.cells 0 (some 4) [.bool false] 0,AB.cells 0 (some tRdr) [.str (s.take 508),i64 ((1:Nat):Int)] 0] zbr ((s.take 508).drop 1):=⟨rfl,rfl,s.take 508,1,rfl,by rw [List.length_take];omega,by rw [List.length_take];omega,rfl⟩
 conv=>whnf
 refine zc5 (n:=m) (hp:=[AB.cells 0 (some 79) zbr 0,AB.cells 0 (some 4) [.bool false] 0,AB.cells 0 (some tRdr) [.str (s.take 508),i64 ((1:Nat):Int)] 0]) (by omega) a0.r 1 (by omega) (fun h1 qh1 rh1 kh1=>?_) (fun q=>?_)
 rotate_left
 ·exact zdc (by simp only [zeu,pnum,if_neg (Nat.not_le.2 q),Option.bind_none]) rfl rfl a0.p rfl a0.i
 have b1:=a0.next kh1 rh1
 have a1:=b1.set (cs':=putAt zbr (0+0) [i64 (zaf (((s.take 508).drop 1).take 1))])
 conv=>whnf
 refine stJ b1.p ?_
 conv=>whnf
 refine zc5 (n:=m) (hp:=_) (by omega) a1.r 4 (by omega) (fun h2 qh2 rh2 kh2=>?_) (fun q=>?_)
 rotate_left
 ·exact zdc (by simp only [zeu,pnum,if_pos qh1,Option.bind_some,if_neg (Nat.not_le.2 q),Option.bind_none]) rfl rfl a1.p rfl a1.i
 have b2:=a1.next kh2 rh2
 have a2:=b2.set (cs':=putAt (putAt zbr (0+0) [i64 (zaf (((s.take 508).drop 1).take 1))]) (0+1) [i64 (zaf ((((s.take 508).drop 1).drop 1).take 4))])
 conv=>whnf
 refine stJ b2.p ?_
 conv=>whnf
 refine zc5 (n:=m) (hp:=_) (by omega) a2.r 6 (by omega) (fun h3 qh3 rh3 kh3=>?_) (fun q=>?_)
 rotate_left
 ·exact zdc (by simp only [zeu,pnum,if_pos qh1,if_pos qh2,Option.bind_some,if_neg (Nat.not_le.2 q),Option.bind_none]) rfl rfl a2.p rfl a2.i
 have b3:=a2.next kh3 rh3
 have a3:=b3.set (cs':=zi9 (zaf (((s.take 508).drop 1).take 1)) (zaf ((((s.take 508).drop 1).drop 1).take 4)) (zaf (((((s.take 508).drop 1).drop 1).drop 4).take 6)))
 have hx:zeu s=(zg1 (zaf (((s.take 508).drop 1).take 1)) (((((s.take 508).drop 1).drop 1).drop 4).drop 6)).map fun b=>⟨zaf (((s.take 508).drop 1).take 1),zaf ((((s.take 508).drop 1).drop 1).take 4),zaf (((((s.take 508).drop 1).drop 1).drop 4).take 6),b⟩:=by
  simp only [zeu,pnum,if_pos qh1,if_pos qh2,if_pos qh3,Option.bind_some]
 have key:OkR Tryz.prog (C m) cfg0.inl KK 61 6 (zew c206) ⟨[(2,.ptr 0 0 0),(3,.ptr 1 0 0),(4,.ptr 2 0 0)],h3.set 0 (.cells 0 (some 79) (zi9 (zaf (((s.take 508).drop 1).take 1)) (zaf ((((s.take 508).drop 1).drop 1).take 4)) (zaf (((((s.take 508).drop 1).drop 1).drop 4).take 6))) 0),dfR⟩ (zm8 m s):=by
  by_cases hk:zaf (((s.take 508).drop 1).take 1)=1 ∨ zaf (((s.take 508).drop 1).take 1)=2
  ·exact zva hn a3 hk hx
  ·by_cases hk3:zaf (((s.take 508).drop 1).take 1)=3
   ·exact zsu hn a3 hk3 hx
   ·exact zvb hn a3 hk hk3 hx
 conv=>whnf
 refine stJ b3.p ?_
 refine z2j ?_ key
 exact ⟨⟨rfl,rfl,rfl⟩,rfl,rfl⟩
end
end Go.Proofs
