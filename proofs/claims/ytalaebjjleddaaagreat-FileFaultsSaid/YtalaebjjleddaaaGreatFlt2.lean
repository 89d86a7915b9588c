/- Texts put together: AbsG, AbsH, AbsI, AbsIx, AbsIy, AbsJ. -/
import Derived.Test.YtalaebjjleddaaaGreatFlt1
import Derived.Laws.BytesArg
import Derived.Laws.StructEq
import Derived.LaidEqlPtr
import Derived.ChangeKeysEq
import Derived.Lib.Builder
import Derived.Lib.UnsafeStr
import Derived.Lib.MakeNoZero
import Derived.Laws.Externs
import Derived.KernelRfl
import Derived.MapKept
set_option linter.unusedVariables false
set_option linter.unusedSimpArgs false
namespace Go.Abs
section
variable {P:Program}{n₀:Nat}{w₀:World}{S₀ S:SM}{m:BM}{h:zaa}{w:World}
theorem zn8 {x:AV}{v:Value}{n:Nat}(hn:lenA x=some n) (hx:VR S m x v):(Builtin.lenOf v).run P w=.ok n w:=by
 cases x<;>simp only [lenA] at hn<;>first | (cases hn;done) | skip
 ·cases hn;unfold VR at hx;subst hx;simp [Builtin.lenOf,zfr]
 ·cases hn;unfold VR at hx;obtain ⟨a,cap,rfl,_⟩:=hx;simp [Builtin.lenOf]
 ·cases hn;unfold VR at hx;obtain ⟨B,K,cap,_,rfl,_⟩:=hx;simp [Builtin.lenOf]
theorem zj2 (S:SM) (m:BM):∀ (l:List UInt8),VRs S m (l.map fun b=>.int .u8 b.toNat) (l.map fun b=>.int .u8 b.toNat)
 | []=>by unfold VRs;rfl
 | b::l=>by simp only [List.map_cons];unfold VRs;exact ⟨_,_,rfl,by unfold VR;rfl,zj2 S m l⟩
theorem zck (s:Sim n₀ w₀ S₀ S m h w) {x:AV}{v:Value}{sz n:Nat}{ys:List AV}(hr:zax h sz n x=some ys) (hx:VR S m x v) :
  ∃ vs:List Value,(Builtin.firstCells sz n v).run P w=.ok vs.toArray w ∧ VRs S m ys vs:=by
 unfold zax at hr
 split at hr
 ·rename_i l
  split at hr
  ·cases hr
   unfold VR at hx;subst hx
   refine ⟨(l.take n).map fun b=>.int .u8 b.toNat,?_,zj2 S m _⟩
   simp only [Builtin.firstCells,Sem.run_pure,zlp]
   simp
  ·cases hr
 ·rename_i sz' xs c0
  split at hr
  ·rename_i hc
   obtain ⟨hn,hsz⟩:=hc
   simp only at hr
   split at hr
   ·rename_i hall
    cases hr
    unfold VR at hx
    obtain ⟨a,cap,rfl,_,_,h3⟩:=hx
    by_cases hn0:n=0
    ·subst hn0
     refine ⟨[],?_,by simp;unfold VRs;rfl⟩
     cases a with
     | none=>simp [Builtin.firstCells]
     | some a=>simp [Builtin.firstCells,loadCells,loadCellsFrom]
    ·have hsz':=hsz.resolve_right hn0
     subst hsz'
     have hne:xs≠[]:=fun e=>by subst e;simp at hn;omega
     obtain ⟨B,q,rfl,her⟩:=h3 hne
     have hall':∀ x∈xs.take n,∃ cs,x.cells?=some cs ∧ cs.length=sz':=fun x hxm=>by
      rw [List.all_eq_true] at hall
      have:=hall x.cells? (List.mem_map.2 ⟨x,hxm,rfl⟩)
      cases hc:x.cells? with
      | none=>simp [hc] at this
      | some cs=>simp [hc] at this;exact ⟨cs,rfl,this⟩
     have hflat:=ER.flat (her.take n) hall'
     obtain ⟨vs,g1,g2⟩:=(CR.at s hflat).load (P:=P)
     have hlen:((xs.take n).flatMap fun x=>x.cells?.getD []).length=n*sz':=by
      have:∀ (l:List AV),(∀ x∈l,∃ cs,x.cells?=some cs ∧ cs.length=sz') → (l.flatMap fun x=>x.cells?.getD []).length=l.length*sz':=by
       intro l
       induction l with
       | nil=>simp
       | cons x l ih =>
        intro hl
        obtain ⟨cs,h1,h2⟩:=hl x (by simp)
        simp only [List.flatMap_cons,h1,Option.getD_some,List.length_append,ih (fun y hy=>hl y (by simp [hy])),h2,List.length_cons,Nat.add_mul]
        omega
      rw [this _ hall']
      rw [List.length_take,Nat.min_eq_left hn]
     rw [hlen] at g1
     refine ⟨vs,by simpa [Builtin.firstCells] using g1,?_⟩
     rw [List.flatMap_map];exact g2
   ·cases hr
  ·cases hr
 ·rename_i sz' b ver o len
  split at hr
  ·rename_i hc
   obtain ⟨hn,rfl⟩:=hc
   split at hr
   ·rename_i ver' cs frz hb
    split at hr
    ·rename_i hc'
     obtain ⟨rfl,hle⟩:=hc'
     cases hr
     obtain ⟨B,K,el₀,vs,fz,h1,h2,h3,h4,h5,h6,h7⟩:=zh9 s hb
     unfold VR at hx
     obtain ⟨B',K',cap,g1,rfl,_⟩:=hx
     rw [h1] at g1;cases g1
     obtain ⟨us,e1,e2⟩:=((h6.drop o).take (n*sz')).load (P:=P)
     have hl:((cs.drop o).take (n*sz')).length=n*sz':=by simp;omega
     rw [hl] at e1
     exact ⟨us,by simpa [Builtin.firstCells] using e1,e2⟩
    ·cases hr
   ·cases hr
  ·cases hr
 ·cases hr
theorem zxi {need cap:Nat}(h1:cap<need) (h2:need ≤ 1073741824) {b:Nat}(hb:b ≤ 65536):¬ Builtin.nextslicecap need cap*b > 2 ^ 48:=by
 have h3:Builtin.nextslicecap need cap ≤ 4294967296:=by
  unfold Builtin.nextslicecap
  split
  ·omega
  ·split
   ·omega
   ·have hg:∀ r c,c ≤ need+1024*1+need → Builtin.growBy need r c ≤ 2*need+1024+need+1024:=by
     intro r
     induction r with
     | zero=>intro c hc;simp [Builtin.growBy];omega
     | succ r ih =>
      intro c hc
      simp only [Builtin.growBy]
      split
      ·omega
      ·exact ih _ (by omega)
    have:=hg 4 cap (by omega)
    omega
 have:Builtin.nextslicecap need cap*b ≤ 4294967296*65536:=Nat.mul_le_mul h3 hb
 have e:(2:Nat) ^ 48=4294967296*65536:=by decide
 omega
theorem zv1 {d:TypeDesc}(h:∀ k,d≠.int k):(match d with | .int _=>true | _=>false)=false:=by
 cases d<;>first | rfl | exact absurd rfl (h _)
theorem zgx {t:TypeId}{i:TypeInfo}(h:P.info? t=some i) (w:World):(typeInfo t).run P w=.ok i w:=by simp [typeInfo,h]
theorem zka {t u e ty:TypeId}{du:TypeDesc}{d:TI}(ht:P.underlying t=some (.slice e)) (hu:P.underlying u=some du) (hui:∀ k,du≠.int k) (hd:ti P e=some d) {p:Option Addr}{len cap n:Nat}{b:Value}{os us:List Value}
  (hl:(Builtin.lenOf b).run P w=.ok n w) (ho:(Builtin.firstCells d.size len (.slice p len cap)).run P w.drew=.ok os.toArray w.drew) (hf:(Builtin.firstCells d.size n b).run P w.drew=.ok us.toArray w.drew)
  (hb:d.bytes ≤ 65536) (hlt:cap<len+n) (hbd:len+n ≤ 1073741824) :
  ∃ (nc:Nat) (zs:Array Value),len+n ≤ nc ∧ zs.size=(nc-(len+n))*d.zero.length ∧ (Builtin.append_ #[t,u] ty #[.slice p len cap,b]).run P w=.ok (.slice (some ⟨w.heap.size,0,none⟩) (len+n) nc) (w.drew.alloc (.cells (os.toArray++(us.toArray++zs)) e)):=by
 obtain ⟨ts1,i,z,ts2,ts3,ts4,ts5,ts6⟩:=zdg hd
 have hm0:=zv1 hui
 have hnc:=zxi hlt hbd hb
 rw [← ts4] at hnc
 have hnc':¬ 281474976710656<Builtin.nextslicecap (len+n) cap*i.bytes:=by
  have:(2:Nat) ^ 48=281474976710656:=by decide
  omega
 have hq:(Question.appendCap (len+n) cap e).forced=false:=rfl
 have hzr:(zeroValue e).run P w.drew=.ok z w.drew:=by simp [zeroValue,typeInfo,ts2,ts5]
 have hneed:¬ (len+n ≤ cap):=by omega
 have hneed2:¬ ((9223372036854775807:Int)<(len:Int)+(n:Int) ∧ i.bytes=0):=by omega
 have hzl:z.cells.size=d.zero.length:=by
  have:=(zfv (S:=fun _ _=>none) (m:=fun _ _=>none) ts6).length
  simpa using this.symm
 refine ⟨(Question.appendCap (len+n) cap e).cut (w.tape w.drawn (Question.appendCap (len+n) cap e)),Builtin.zeroCells z.cells ((Question.appendCap (len+n) cap e).cut (w.tape w.drawn (Question.appendCap (len+n) cap e))-(len+n)),by simp [Question.cut],by simp [Builtin.zeroCells,hzl],?_⟩
 simp [Builtin.append_,zab ht,zab hu,zao hd,hm0,hl,hneed,zgx ts2,hneed2,hnc',hq,ho,hf,hzr,newRow]
theorem zdn {t u e ty:TypeId}{du:TypeDesc}{d:TI}(ht:P.underlying t=some (.slice e)) (hu:P.underlying u=some du) (hui:∀ k,du≠.int k) (hd:ti P e=some d) {p:Option Addr}{len cap n:Nat}{b:Value}{us:List Value}{w':World}
  (hl:(Builtin.lenOf b).run P w=.ok n w) (hf:(Builtin.firstCells d.size n b).run P w=.ok us.toArray w) (hle:len+n ≤ cap)
  (hst:(match p with | some a=>storeCells (a.add (len*d.size)) us | none=>pure ()).run P w=.ok () w') :
  (Builtin.append_ #[t,u] ty #[.slice p len cap,b]).run P w=.ok (.slice p (len+n) cap) w':=by
 have hm0:=zv1 hui
 cases p with
 | none =>
  simp at hst;subst hst
  simp [Builtin.append_,zab ht,zab hu,zao hd,hm0,hl,hle,hf]
 | some a =>
  simp at hst
  simp [Builtin.append_,zab ht,zab hu,zao hd,hm0,hl,hle,hf,hst]
theorem zds {x:AV}{sz n L:Nat}{ys:List AV}(hr:zax h sz n x=some ys) (hL:lenA x=some L) (hn:n ≤ L):ys.length=n*sz:=by
 unfold zax at hr
 split at hr
 ·rename_i l
  simp only [lenA,Option.some.injEq] at hL
  split at hr
  ·rename_i e;subst e
   cases hr;simp;omega
  ·cases hr
 ·rename_i sz' xs c0
  split at hr
  ·rename_i hc
   obtain ⟨hn,hsz⟩:=hc
   simp only at hr
   split at hr
   ·rename_i hall
    cases hr
    have hall':∀ x∈xs.take n,∃ cs,x.cells?=some cs ∧ cs.length=sz:=fun x hxm=>by
     rw [List.all_eq_true] at hall
     have:=hall x.cells? (List.mem_map.2 ⟨x,hxm,rfl⟩)
     cases hc:x.cells? with
     | none=>simp [hc] at this
     | some cs=>simp [hc] at this;exact ⟨cs,rfl,this⟩
    have:∀ (l:List AV),(∀ x∈l,∃ cs,x.cells?=some cs ∧ cs.length=sz) → (l.flatMap fun x=>x.cells?.getD []).length=l.length*sz:=by
     intro l
     induction l with
     | nil=>simp
     | cons x l ih =>
      intro hl
      obtain ⟨cs,h1,h2⟩:=hl x (by simp)
      simp only [List.flatMap_cons,h1,Option.getD_some,List.length_append,ih (fun y hy=>hl y (by simp [hy])),h2,List.length_cons,Nat.add_mul]
      omega
    rw [List.flatMap_map,this _ hall',List.length_take,Nat.min_eq_left hn]
   ·cases hr
  ·cases hr
 ·split at hr
  ·split at hr
   ·split at hr
    ·rename_i hc
     cases hr;simp;omega
    ·cases hr
   ·cases hr
  ·cases hr
 ·cases hr
theorem zpa (s:Sim n₀ w₀ S₀ S m h w) {t u e ty:TypeId}{du:TypeDesc}(ht:P.underlying t=some (.slice e)) (hu:P.underlying u=some du) (hui:∀ k,du≠.int k) {x y r:AV}{a b:Value}{oh:Option zaa}
  (hr:zkb P h e x y=some (r,oh)) (hx:VR S m x a) (hy:VR S m y b) :
  ∃ v w' m',(Builtin.append_ #[t,u] ty #[a,b]).run P w=.ok v w' ∧ m.le m' ∧ VR S m' r v ∧ Sim n₀ w₀ S₀ S m' (oh.getD h) w':=by
 have sd:Sim n₀ w₀ S₀ S m h w.drew:=s.heap rfl ⟨rfl,rfl,rfl⟩
 unfold zkb at hr
 split at hr
 ·rename_i d n hd hn
  split at hr
  ·cases hr
  ·rename_i hbz
   have hbytes:d.bytes ≤ 65536:=by omega
   have hsz0:d.size≠0:=by omega
   split at hr
   ·cases hr
   ·rename_i ys hys
    split at hr
    ·cases hr
    ·rename_i hsc
     have hsc':ys.all AV.scal=true:=by simpa using hsc
     obtain ⟨us,f1,f2⟩:=zck (P:=P) s hys hy
     obtain ⟨us',f1',f2'⟩:=zck (P:=P) sd hys hy
     have hl:=zn8 (P:=P) (w:=w) hn hy
     split at hr
     ·rename_i sz xs
      have hx0:=hx
      unfold VR at hx
      obtain ⟨p,cap,rfl,g1,g2,g3⟩:=hx
      have hcap:=(g2 rfl).1
      subst hcap
      split at hr
      ·rename_i hn0
       subst hn0
       cases hr
       have hys0:ys=[]:=by
        unfold zax at hys
        cases y<;>simp only [lenA] at hn hys<;>first | (cases hn;done) | skip
        all_goals
         (repeat' split at hys)<;>first | (cases hys;done) | (simp at hys;exact hys) | (simp at hys;exact hys.2) | (simp at hys;exact hys.symm)
       subst hys0
       have hus:us=[]:=by unfold VRs at f2;exact f2
       subst hus
       refine ⟨.slice p (xs.length+0) xs.length,w,m,zdn ht hu hui hd hl f1 (by omega) ?_,BM.le_refl _,hx0,s⟩
       cases p<;>simp [storeCells]
      ·rename_i hn0
       split at hr
       ·rename_i old hold
        split at hr
        ·rename_i hbd
         obtain ⟨hbd,hos⟩:=hbd
         cases hr
         obtain ⟨os,o1,o2⟩:=zck (P:=P) sd hold hx0
         obtain ⟨nc,zs,q1,q2,q3⟩:=zka (ty:=ty) ht hu hui hd hl o1 f1' hbytes (by omega) hbd
         have hzl:d.zero.length=d.size:=by omega
         have hl1:=zds hold (L:=xs.length) rfl (Nat.le_refl _)
         have hl2:=zds hys hn (Nat.le_refl _)
         have hv:VRs S m (old++ys) ((os.toArray++(us'.toArray++zs)).toList.take (old++ys).length):=by
          have:=o2.append f2'
          have e:(os.toArray++(us'.toArray++zs)).toList.take (old++ys).length=os++us':=by
           rw [List.length_append,o2.length,f2'.length]
           simp [List.take_append,← List.append_assoc]
          rw [e];exact this
         obtain ⟨k1,k2⟩:=sd.alloc (os.toArray++(us'.toArray++zs)) e (0,0) (old++ys) (el':=some e) (fun e' he=>by cases he;exact ⟨rfl,.inl rfl⟩) hv (by simp)
         refine ⟨_,_,_,q3,k1,?_,k2⟩
         unfold VR
         refine ⟨_,_,nc,BM.put_eq _ _ _ _,rfl,q1,?_⟩
         simp only [Array.size_append,List.size_toArray,← o2.length,← f2'.length,hl1,hl2,q2,hzl]
         have:nc*d.size=xs.length*d.size+(n*d.size+(nc-(xs.length+n))*d.size):=by
          rw [← Nat.add_mul,← Nat.add_mul];congr 1;omega
         omega
        ·cases hr
       ·cases hr
     ·rename_i sz b' ver o len
      split at hr
      ·rename_i ver' el cs frz hb
       split at hr
       ·rename_i hc
        obtain ⟨hel,rfl,rfl,rfl,c1,c2,c3,c4⟩:=hc
        have hx0:=hx
        unfold VR at hx
        obtain ⟨B,K,cap,g1,rfl,g2,g3⟩:=hx
        obtain ⟨B',K',el₀,vs,fz,e1,e2,e3,e4,e5,e6,e7⟩:=zh9 s hb
        rw [g1] at e1;cases e1
        have hl2:=zds hys hn (Nat.le_refl _)
        split at hr
        ·rename_i hn0
         subst hn0
         cases hr
         have hys0:ys=[]:=List.eq_nil_of_length_eq_zero (by omega)
         subst hys0
         have hus:us=[]:=by unfold VRs at f2;exact f2
         subst hus
         exact ⟨_,w,m,zdn ht hu hui hd hl f1 (by omega) (by simp [storeCells]),BM.le_refl _,hx0,s⟩
        ·rename_i hn0
         cases hr
         by_cases hroom:len+n ≤ cap
         ·have hst:=zcx P B (len*d.size) _ fz us 0 vs w e2 (fun j hj=>e7 _ (by omega) (by
           have:(len+n)*d.size ≤ cap*d.size:=Nat.mul_le_mul_right _ hroom
           rw [Nat.add_mul] at this
           have:=f2.length;omega)) (by
           have:(len+n)*d.size ≤ cap*d.size:=Nat.mul_le_mul_right _ hroom
           rw [Nat.add_mul] at this
           have:=f2.length;omega) (zi1 hsc' f2)
          have hadd:(⟨B,0,none⟩ : Addr).add (len*d.size)=⟨B,len*d.size,none⟩:=by rw [zc0];simp
          have hrow:∀ (n₁:Nat),n₁=len*d.size+us.length → VRs S m (cs++ys) ((vs.toList.take (len*d.size+0)++us++vs.toList.drop (len*d.size+0+us.length)).toArray.toList.take (cs++ys).length):=fun n₁ _=>by
           have:=e5.append f2
           have e:(vs.toList.take (len*d.size+0)++us++vs.toList.drop (len*d.size+0+us.length)).toArray.toList.take (cs++ys).length=vs.toList.take cs.length++us:=by
            rw [Nat.add_zero,c1]
            simp only [List.append_assoc]
            rw [List.length_append,f2.length]
            have hl0:(vs.toList.take cs.length).length=cs.length:=by simp;omega
            conv=>lhs;rw [← List.append_assoc,List.take_append_of_le_length (by rw [List.length_append,hl0];exact Nat.le_refl _)]
            rw [List.take_of_length_le (by rw [List.length_append,hl0];exact Nat.le_refl _)]
           rw [e];exact this
          have hsz:(vs.toList.take (len*d.size+0)++us++vs.toList.drop (len*d.size+0+us.length)).toArray.size=vs.size:=by
           have:(len+n)*d.size ≤ cap*d.size:=Nat.mul_le_mul_right _ hroom
           rw [Nat.add_mul] at this
           have:=f2.length
           simp;omega
          obtain ⟨k1,k2⟩:=s.write hb g1 e2 hsz (hrow _ rfl) (ver':=ver'+1) (Nat.le_succ _) (fun i hi=>by rw [List.getElem?_toArray,List.append_assoc,List.getElem?_append_left (by simp;omega),List.getElem?_take,if_pos (by omega),Array.getElem?_toList])
          refine ⟨_,_,_,zdn (ty:=ty) ht hu hui hd hl f1 hroom (p:=some ⟨B,0,none⟩) (by simp only [hadd];exact hst),k1,?_,k2⟩
          unfold VR
          exact ⟨B,K,cap,BM.put_eq _ _ _ _,rfl,hroom,g3⟩
         ·have hold:zax h d.size len (.sl d.size b' ver' 0 len)=some cs:=by
           simp only [zax,Nat.le_refl,true_and,and_self,if_true,hb,Nat.zero_add,c1,List.drop_zero,List.take_length]
          obtain ⟨os,o1,o2⟩:=zck (P:=P) sd hold hx0
          obtain ⟨nc,zs,q1,q2,q3⟩:=zka (ty:=ty) ht hu hui hd hl o1 f1' hbytes (by omega) c3
          have hzl:d.zero.length=d.size:=by omega
          have hv:VRs S m (cs++ys) ((os.toArray++(us'.toArray++zs)).toList.take (cs++ys).length):=by
           have:=o2.append f2'
           have e:(os.toArray++(us'.toArray++zs)).toList.take (cs++ys).length=os++us':=by
            rw [List.length_append,o2.length,f2'.length]
            simp [List.take_append,← List.append_assoc]
           rw [e];exact this
          obtain ⟨k1,k2⟩:=sd.move (el:=e) (fun e' he=>by rcases hel with h' | h'<;>rw [h'] at he<;>cases he;rfl) hb (vs':=os.toArray++(us'.toArray++zs)) hv
          refine ⟨_,_,_,q3,k1,?_,k2⟩
          unfold VR
          refine ⟨_,_,nc,BM.put_eq _ _ _ _,rfl,q1,?_⟩
          simp only [Array.size_append,List.size_toArray,← o2.length,← f2'.length,← c1,hl2,q2,hzl]
          have:nc*d.size=len*d.size+(n*d.size+(nc-(len+n))*d.size):=by
           rw [← Nat.add_mul,← Nat.add_mul];congr 1;omega
          omega
       ·cases hr
      ·cases hr
     ·cases hr
 ·cases hr
end
section
variable {P:Program}{n₀:Nat}{w₀:World}{S₀ S:SM}{m:BM}{h:zaa}{w:World}
theorem ziy {x:AV}{a:Value}{la:Nat}(hla:ziz x=some la) (hx:VR S m x a):∃ base cap,a=.slice base la cap:=by
 cases x<;>simp only [ziz] at hla<;>first | (cases hla;done) | skip
 ·cases hla;unfold VR at hx;obtain ⟨a,cap,rfl,_⟩:=hx;exact ⟨_,_,rfl⟩
 ·cases hla;unfold VR at hx;obtain ⟨B,K,cap,_,rfl,_⟩:=hx;exact ⟨_,_,rfl⟩
theorem ztw (s:Sim n₀ w₀ S₀ S m h w) {t e ty:TypeId}{ts:Array TypeId}(ht0:ts[0]?=some t) (ht:P.underlying t=some (.slice e)) {x y r:AV}{a b:Value}{oh:Option zaa}
  (hr:zxe P h e x y=some (r,oh)) (hx:VR S m x a) (hy:VR S m y b) :
  ∃ v w' m',(Builtin.copy_ ts ty #[a,b]).run P w=.ok v w' ∧ m.le m' ∧ VR S m' r v ∧ Sim n₀ w₀ S₀ S m' (oh.getD h) w':=by
 unfold zxe at hr
 split at hr
 ·rename_i d la lb hd hla hlb
  simp only at hr
  split at hr
  ·cases hr
  ·rename_i ys hys
   obtain ⟨us,f1,f2⟩:=zck (P:=P) s hys hy
   have hl:=zn8 (P:=P) (w:=w) hlb hy
   obtain ⟨base,cap,rfl⟩:=ziy hla hx
   have hmin:Nat.min lb la=min lb la:=rfl
   have hrun:∀ w',(match base with | some p=>storeCells p us | none=>pure ()).run P w=.ok () w' → (Builtin.copy_ ts ty #[.slice base la cap,b]).run P w=.ok (.int .i64 (min lb la:Nat)) w':=fun w' hst=>by
    cases base with
    | none=>simp at hst;subst hst;simp [Builtin.copy_,ht0,zab ht,hl,zao hd,hmin,f1,goInt]
    | some p=>simp at hst;simp [Builtin.copy_,ht0,zab ht,hl,zao hd,hmin,f1,goInt,hst]
   split at hr
   ·rename_i hn0
    cases hr
    have hus:us=[]:=by
     have:=zds hys hlb (Nat.min_le_left _ _)
     rw [hn0,Nat.zero_mul] at this
     have h2:=f2.length
     exact List.eq_nil_of_length_eq_zero (by omega)
    subst hus
    refine ⟨_,w,m,hrun w (by cases base<;>simp [storeCells]),BM.le_refl _,?_,s⟩
    unfold VR
    rw [hn0];rfl
   ·rename_i hn0
    split at hr
    ·rename_i sz b' ver o len
     split at hr
     ·rename_i ver' cs frz hb
      split at hr
      ·rename_i hc
       obtain ⟨rfl,rfl,c1,c2,c3⟩:=hc
       cases hr
       unfold VR at hx
       obtain ⟨B,K,cap',g1,g2,_⟩:=hx
       cases g2
       obtain ⟨B',K',e1,w',m',e2,e3,e4⟩:=zng (P:=P) s hb f2 c3 c2 c1
       rw [g1] at e1;cases e1
       exact ⟨_,w',m',hrun w' e2,e3,by unfold VR;rfl,e4⟩
      ·cases hr
     ·cases hr
    ·cases hr
 ·cases hr
theorem zgr:∀ {cs:List AV}{l:List UInt8}{vs:List Value},zbe cs=some l → VRs S m cs vs → ∃ ns:List Int,vs=ns.map (Value.int .u8) ∧ l=ns.map fun n=>UInt8.ofNat n.toNat
 | [],_,_,h,hv=>by unfold zbe at h;cases h;unfold VRs at hv;exact ⟨[],hv,rfl⟩
 | c::cs,l,vs,h,hv=>by
  unfold VRs at hv
  obtain ⟨v,vs',rfl,h1,h2⟩:=hv
  unfold zbe at h
  split at h
  ·rename_i e;cases e
  ·rename_i n r e
   cases e
   cases ht:zbe cs with
   | none=>simp [ht] at h
   | some l' =>
    simp [ht] at h;subst h
    obtain ⟨ns,e1,e2⟩:=zgr ht h2
    unfold VR at h1
    exact ⟨n::ns,by simp [h1,e1],by simp [e2]⟩
  ·cases h
theorem zpv (a:Array Obj) (o:Obj) (f:Obj → Obj):(a.push o).modify a.size f=a.push (f o):=by
 apply Array.ext_getElem?
 intro i
 simp only [Array.getElem?_modify,Array.getElem?_push]
 by_cases e:a.size=i
 ·subst e;simp
 ·simp only [e,if_false,show ¬ i=a.size by omega]
theorem ztx (s:Sim n₀ w₀ S₀ S m h w) {src dst:TypeId}{x r:AV}{a:Value}{oh:Option zaa}
  (hr:zkq P h src dst x=some (r,oh)) (hx:VR S m x a) :
  ∃ v w' m',(convert src dst a).run P w=.ok v w' ∧ m.le m' ∧ VR S m' r v ∧ Sim n₀ w₀ S₀ S m' (oh.getD h) w':=by
 have sd:Sim n₀ w₀ S₀ S m h w.drew:=s.heap rfl ⟨rfl,rfl,rfl⟩
 unfold zkq at hr
 split at hr
 ·rename_i sd' dd hs hd
  split at hr
  ·rename_i k k' n
   cases hr
   unfold VR at hx;subst hx
   exact ⟨_,w,m,by simp [convert,zab hs,zab hd,Conv.intToInt];rfl,BM.le_refl _,by unfold VR;rfl,s⟩
  ·rename_i l
   cases hr
   unfold VR at hx;subst hx
   exact ⟨_,w,m,by simp [convert,zab hs,zab hd];rfl,BM.le_refl _,by unfold VR;rfl,s⟩
  ·rename_i e l
   split at hr
   ·rename_i he
    cases hr
    unfold VR at hx;subst hx
    have hq:(Question.appendCap l.length 0 e).forced=false:=rfl
    obtain ⟨cap,hcap,hle⟩ : ∃ cap,(Question.appendCap l.length 0 e).cut (w.tape w.drawn (Question.appendCap l.length 0 e))=cap ∧ l.length ≤ cap:=⟨_,rfl,by simp [Question.cut]⟩
    obtain ⟨vs,hvd⟩ : ∃ vs:Array Value,(l.map fun b=>Value.int .u8 b.toNat).toArray++Array.replicate (cap-l.length) (.int .u8 0)=vs:=⟨_,rfl⟩
    have hvs:vs.size=cap:=by rw [← hvd];simp;omega
    have hsh:(w.drew.alloc (.cells vs e (0,0))).shape? w.heap.size=some (e,cap):=by
     unfold World.shape? World.alloc World.drew
     simp [hvs]
    have hrun:(convert src dst (.string ⟨l.toArray⟩)).run P w=.ok (.slice (some ⟨w.heap.size,0,none⟩) l.length cap) ((w.drew.alloc (.cells vs e (0,0))).freeze ⟨w.heap.size,cap,none⟩ 1):=by
     simp only [convert,Sem.run_bind,zab hs,zab hd,zab he,Result.andThen_ok,Conv.stringToBytes,run_choose,zfr,hq,hcap]
     simp [newRow,markStringish]
     simp only [hvd,hsh]
     simp
    obtain ⟨k1,k2⟩:=sd.alloc vs e (cap,cap+1) (l.map fun b=>.int .u8 b.toNat) (el':=Option.none) (fun _ he=>by cases he) (by
     have:=zj2 S m l
     have e1:vs.toList.take (l.map fun b=>AV.int .u8 b.toNat).length=l.map fun b=>Value.int .u8 b.toNat:=by rw [← hvd];simp [List.take_append]
     rw [e1];exact this) (fun o ho=>by omega)
    refine ⟨_,_,_,hrun,k1,?_,Sim.heap k2 ?_ (by unfold World.freeze;rw [if_neg (by decide)];exact ⟨rfl,rfl,rfl⟩)⟩
    ·unfold VR
     exact ⟨_,_,cap,BM.put_eq _ _ _ _,by simp,hle,by rw [hvs];simp⟩
    ·unfold World.freeze
     rw [if_neg (by decide)]
     simp only [World.alloc,World.drew]
     rw [zpv]
     simp
   ·cases hr
  ·rename_i e _
   split at hr
   ·rename_i he
    split at hr
    ·rename_i n hn
     split at hr
     ·cases hr
     ·rename_i hns
      split at hr
      ·rename_i cs hcs
       cases hb:zbe cs with
       | none=>simp [hb] at hr
       | some l =>
        simp [hb] at hr
        obtain ⟨rfl,rfl⟩:=hr
        have hsl:ziz x=some n:=by
         cases x<;>simp only [lenA] at hn<;>first | (cases hn;done) | (exact absurd rfl (hns _)) | (simpa [ziz] using hn)
        obtain ⟨us,f1,f2⟩:=zck (P:=P) s hcs hx
        obtain ⟨ns,e1,e2⟩:=zgr hb f2
        subst e1 e2
        obtain ⟨base,cap,rfl⟩:=ziy hsl hx
        refine ⟨.string ⟨(ns.map fun n=>UInt8.ofNat n.toNat).toArray⟩,w,m,?_,BM.le_refl _,by unfold VR;rfl,s⟩
        rw [run_convert_bytes_string w src dst e _ _ _ hs he hd]
        cases base with
        | none =>
         simp [Builtin.firstCells] at f1
         subst f1
         simp [Conv.bytesToString];rfl
        | some p =>
         have f1':(loadCells p n).run P w=.ok (ns.map (Value.int .u8)).toArray w:=by simpa [Builtin.firstCells] using f1
         rw [run_bytesToString w p n cap ns f1',foldl_push_bytes]
         simp
      ·cases hr
    ·cases hr
   ·cases hr
  ·cases hr
 ·cases hr
end
section
variable {P:Program}{n₀:Nat}{w₀:World}{S₀ S:SM}{m:BM}{h:zaa}{w:World}
theorem zsa {t:TypeId}{d:TI}(h:ti P t=some d):P.cellsOf t=d.size:=by
 obtain ⟨_,i,z,h1,h2,_⟩:=zdg h
 simp [Program.cellsOf,h1,h2]
theorem zia {f:Nat → AV → AV → Option Bool}{D:Nat}{xs ys:List AV}{us vs:Array Value}(hx:VRs S m xs us.toList) (hy:VRs S m ys vs.toList)
  (hf:∀ t x y r a b,f t x y=some r → VR S m x a → VR S m y b → (Op.equalIn D t a b).run P w=.ok r w):∀ {fs:List Field}{l:List (Nat × AV × AV)}{r:Bool},zjc P xs ys fs=some l → zcz f l=some r →
  (Op.eqFields D us vs fs).run P w=.ok r w
 | [],l,r,hp,hr=>by unfold zjc at hp;cases hp;unfold zcz at hr;cases hr;simp [Op.eqFields]
 | fl::fs,l,r,hp,hr=>by
  unfold zjc at hp
  split at hp
  ·cases hp
  ·rename_i hname
   split at hp
   ·rename_i d rest hd hrest
    split at hp
    ·rename_i x y px py
     cases hp
     obtain ⟨a,a1,a2⟩:=zdd (P:=P) (w:=w) hd hx px
     obtain ⟨b,b1,b2⟩:=zdd (P:=P) (w:=w) hd hy py
     unfold zcz at hr
     simp only [Op.eqFields,ne_eq,hname,not_false_eq_true,if_true,Sem.run_bind,a1,b1,Result.andThen_ok]
     split at hr
     ·rename_i he
      rw [hf _ _ _ _ _ _ he a2 b2]
      simp only [Result.andThen_ok,Bool.not_true,Bool.false_eq_true,if_false]
      exact zia hx hy hf hrest hr
     ·rename_i he
      cases hr
      rw [hf _ _ _ _ _ _ he a2 b2]
      simp
     ·cases hr
    ·cases hp
   ·cases hp
theorem zkf {f:Nat → AV → AV → Option Bool}{D:Nat}{xs ys:List AV}{us vs:Array Value}(hx:VRs S m xs us.toList) (hy:VRs S m ys vs.toList) {e:TypeId}{d:TI}(hd:ti P e=some d)
  (hf:∀ t x y r a b,f t x y=some r → VR S m x a → VR S m y b → (Op.equalIn D t a b).run P w=.ok r w):∀ {is:List Nat}{l:List (Nat × AV × AV)}{r:Bool},zeh d e xs ys is=some l → zcz f l=some r →
  (Op.eqItems D e d.size us vs is).run P w=.ok r w
 | [],l,r,hp,hr=>by unfold zeh at hp;cases hp;unfold zcz at hr;cases hr;simp [Op.eqItems]
 | i::is,l,r,hp,hr=>by
  unfold zeh at hp
  split at hp
  ·rename_i x y rest px py hrest
   cases hp
   obtain ⟨a,a1,a2⟩:=zdd (P:=P) (w:=w) hd hx px
   obtain ⟨b,b1,b2⟩:=zdd (P:=P) (w:=w) hd hy py
   unfold zcz at hr
   simp only [Op.eqItems,Sem.run_bind,a1,b1,Result.andThen_ok]
   split at hr
   ·rename_i he
    rw [hf _ _ _ _ _ _ he a2 b2]
    simp only [Result.andThen_ok,Bool.not_true,Bool.false_eq_true,if_false]
    exact zkf hx hy hd hf hrest hr
   ·rename_i he
    cases hr
    rw [hf _ _ _ _ _ _ he a2 b2]
    simp
   ·cases hr
  ·cases hp
theorem zli {d:TI}{e:TypeId}{xs ys:List AV}(ha:za9 d.desc=false) (hs:d.size=1):∀ (n j:Nat),xs.length=j+n → ys.length=j+n → zeh d e xs ys (List.range' j n)=some (zipE e (xs.drop j) (ys.drop j))
 | 0,j,h1,h2=>by
  rw [List.drop_eq_nil_of_le (by omega)]
  unfold zeh zipE
  rfl
 | n+1,j,h1,h2=>by
  have hx:j<xs.length:=by omega
  have hy:j<ys.length:=by omega
  rw [List.range'_succ]
  unfold zeh
  rw [zli ha hs n (j+1) (by omega) (by omega)]
  rw [List.drop_eq_getElem_cons hx,List.drop_eq_getElem_cons hy]
  have px:zdw d xs (j*d.size)=some xs[j]:=by
   unfold zdw;simp [ha,hs,hx]
  have py:zdw d ys (j*d.size)=some ys[j]:=by
   unfold zdw;simp [ha,hs,hy]
  rw [px,py]
  conv=>rhs;unfold zipE
theorem zwa {d:TI}{e:TypeId}{xs ys:List AV}{k:Nat}{l:List (Nat × AV × AV)}(h:zn9 d e xs ys k=some l):zeh d e xs ys (List.range k)=some l:=by
 unfold zn9 at h
 split at h
 ·rename_i hc
  cases h
  have:=zli (e:=e) hc.1 hc.2.1 k 0 (by simpa using hc.2.2.1) (by simpa using hc.2.2.2)
  rw [List.range_eq_range']
  simpa using this
 ·exact h
theorem zr4:∀ (n:Nat) {D:Nat},n ≤ D → ∀ {t:TypeId}{x y:AV}{r:Bool}{a b:Value},eqA P n t x y=some r → VR S m x a → VR S m y b → (Op.equalIn D t a b).run P w=.ok r w
 | 0,_,_,_,_,_,_,_,_,hr,_,_=>by unfold eqA at hr;cases hr
 | n+1,D,hD,t,x,y,r,a,b,hr,hx,hy=>by
  obtain ⟨D,rfl⟩ : ∃ D',D=D'+1:=⟨D-1,by omega⟩
  have ih:∀ t x y r a b,eqA P n t x y=some r → VR S m x a → VR S m y b → (Op.equalIn D t a b).run P w=.ok r w:=fun t x y r a b h1 h2 h3=>zr4 n (by omega) h1 h2 h3
  unfold eqA at hr
  split at hr
  ·cases hr
  ·rename_i d hd
   split at hr
   ·cases hr;unfold VR at hx hy;subst hx hy;simp [Op.equalIn,zab hd]
   ·split at hr
    ·rename_i e;subst e;cases hr;unfold VR at hx hy;subst hx hy;simp [Op.equalIn,zab hd]
    ·cases hr
   ·cases hr;unfold VR at hx hy;subst hx hy
    rw [run_equalIn_string w D t _ _ hd]
    simp
   ·cases hr;unfold VR at hx hy;subst hx hy;simp [Op.equalIn,zab hd]
   ·cases hr;unfold VR at hx hy;subst hx;obtain ⟨B,K,_,rfl⟩:=hy;simp [Op.equalIn,zab hd]
   ·cases hr;unfold VR at hx hy;subst hy;obtain ⟨B,K,_,rfl⟩:=hx;simp [Op.equalIn,zab hd]
   ·split at hr
    ·rename_i hc
     obtain ⟨rfl,rfl,rfl,hti⟩:=hc
     cases hr
     unfold VR at hx hy
     obtain ⟨B,K,g1,rfl⟩:=hx
     obtain ⟨B',K',g2,rfl⟩:=hy
     rw [g1] at g2;cases g2
     obtain ⟨d',hd'⟩:=Option.isSome_iff_exists.1 hti
     obtain ⟨_,i,z,hi,_⟩:=zdg hd'
     simp [Op.equalIn,zab hd,sizeOf,typeInfo,hi,run_sameAddr_same]
    ·cases hr
   ·cases hr;unfold VR at hx hy;subst hx hy;simp [Op.equalIn,zab hd]
   ·cases hr;unfold VR at hx hy;subst hx;obtain ⟨u,rfl,_⟩:=hy;simp [Op.equalIn,zab hd]
   ·cases hr;unfold VR at hx hy;subst hy;obtain ⟨u,rfl,_⟩:=hx;simp [Op.equalIn,zab hd]
   ·cases hr
    unfold VR at hx hy
    obtain ⟨a1,c1,rfl,_,_,g1⟩:=hx
    obtain ⟨B,q,rfl,_⟩:=g1 (by simp)
    obtain ⟨a2,c2,rfl,_,g2,_⟩:=hy
    rw [(g2 rfl).2 rfl]
    simp [Op.equalIn,zab hd]
   ·cases hr
    unfold VR at hx hy
    obtain ⟨a1,c1,rfl,_,g1,_⟩:=hx
    rw [(g1 rfl).2 rfl]
    obtain ⟨a2,c2,rfl,_,g2,_⟩:=hy
    rw [(g2 rfl).2 rfl]
    simp [Op.equalIn,zab hd]
   ·cases hr
    unfold VR at hx hy
    obtain ⟨B,K,c1,_,rfl,_⟩:=hx
    obtain ⟨a2,c2,rfl,_,g2,_⟩:=hy
    rw [(g2 rfl).2 rfl]
    simp [Op.equalIn,zab hd]
   ·rename_i fs xs ys
    split at hr
    ·cases hr
    ·rename_i hst
     split at hr
     ·rename_i l hl
      unfold VR at hx hy
      obtain ⟨us,rfl,hx⟩:=hx
      obtain ⟨vs,rfl,hy⟩:=hy
      have hfo:P.fieldsOf t=fs:=by simp [Program.fieldsOf,hd]
      rw [run_equalIn_struct w D t us vs (by rw [hfo];exact hd) (by simpa using hst),hfo]
      exact zia hx hy ih hl hr
     ·cases hr
   ·rename_i k e xs ys
    split at hr
    ·rename_i d' hd'
     split at hr
     ·rename_i l hl
      unfold VR at hx hy
      obtain ⟨us,rfl,hx⟩:=hx
      obtain ⟨vs,rfl,hy⟩:=hy
      obtain ⟨_,i,z,hi,_⟩:=zdg hd'
      rw [run_equalIn_array w D us vs hd hi,zsa hd']
      exact zkf hx hy hd' ih (zwa hl) hr
     ·cases hr
    ·cases hr
   ·cases hr
theorem VR.agg_inv {p:AV}{a:Value}{xs:Array Value}(hx:VR S m p a) (e:a=.agg xs):(∃ cs,p=.agg cs) ∨ p=.undef:=by
 cases p<;>first | exact .inr rfl | exact .inl ⟨_,rfl⟩ | skip
 all_goals
  unfold VR at hx
  first
   | (subst hx;cases e;done)
   | (obtain ⟨_,_,_,_,rfl,_⟩:=hx;cases e;done)
   | (obtain ⟨_,_,_,rfl,_⟩:=hx;cases e;done)
   | (obtain ⟨_,_,_,rfl⟩:=hx;cases e;done)
   | (obtain ⟨_,_,rfl,_⟩:=hx;cases e;done)
   | (obtain ⟨_,rfl,_⟩:=hx;cases e;done)
   | (obtain ⟨_,_,⟨_,rfl,_⟩,_⟩:=hx;cases e;done)
theorem VR.nili_inv {p:AV}{a:Value}(hx:VR S m p a) (e:a=.nilIface):p=.nili ∨ p=.undef:=by
 cases p<;>first | exact .inr rfl | exact .inl rfl | skip
 all_goals
  unfold VR at hx
  first
   | (subst hx;cases e;done)
   | (obtain ⟨_,_,_,_,rfl,_⟩:=hx;cases e;done)
   | (obtain ⟨_,_,_,rfl,_⟩:=hx;cases e;done)
   | (obtain ⟨_,_,_,rfl⟩:=hx;cases e;done)
   | (obtain ⟨_,_,rfl,_⟩:=hx;cases e;done)
   | (obtain ⟨_,rfl,_⟩:=hx;cases e;done)
   | (obtain ⟨_,_,⟨_,rfl,_⟩,_⟩:=hx;cases e;done)
theorem zgh {op:BinOp}{t:TypeId}{x y:Operand}{p q:AV}{a b:Value}(hg:zd4 P t x y p q=true) (hx:VR S m p a) (hy:VR S m q b):(eqGuard op t x y a b).run P w=.ok () w:=by
 have hneq:∀ (a b:Value),(∀ xs ys,a=.agg xs → b=.agg ys → False) → (a=.nilIface → b=.nilIface → False) → (eqGuard op t x y a b).run P w=.ok () w:=fun a b h1 h2=>by
  cases op<;>simp only [eqGuard]<;>first | rfl | skip
  all_goals
   cases a<;>cases b<;>first | (exact (h1 _ _ rfl rfl).elim) | (exact (h2 rfl rfl).elim) | simp
 have hpu:p≠.undef:=fun e=>by subst e;simp [zd4] at hg
 have hqu:q≠.undef:=fun e=>by subst e;cases p<;>simp [zd4] at hg
 by_cases h1:∃ xs ys,a=.agg xs ∧ b=.agg ys
 ·obtain ⟨xs,ys,e1,e2⟩:=h1
  obtain ⟨cs,rfl⟩:=(hx.agg_inv e1).resolve_right hpu
  obtain ⟨ds,rfl⟩:=(hy.agg_inv e2).resolve_right hqu
  subst e1 e2
  exact run_eqGuard_agg w op t x y xs ys (by simpa [zd4] using hg)
 ·by_cases h2:a=.nilIface ∧ b=.nilIface
  ·obtain ⟨e1,e2⟩:=h2
   have:=(hx.nili_inv e1).resolve_right hpu;subst this
   have:=(hy.nili_inv e2).resolve_right hqu;subst this
   subst e1 e2
   simp only [zd4,Bool.or_eq_true] at hg
   cases x<;>cases y<;>simp [zfx] at hg<;>cases op<;>simp [eqGuard]
  ·exact hneq a b (fun xs ys e1 e2=>h1 ⟨xs,ys,e1,e2⟩) (fun e1 e2=>h2 ⟨e1,e2⟩)
theorem zd1 {ρ:Operand → Option AV}{σ:Operand → Value}(hρ:∀ x v,ρ x=some v → VR S m v (σ x)):∀ {l:List Operand}{vs:List AV},zb9 ρ l=some vs → VRs S m vs (l.map σ)
 | [],vs,hm=>by unfold zb9 at hm;cases hm;unfold VRs;rfl
 | x::xs,vs,hm=>by
  unfold zb9 at hm
  split at hm
  ·rename_i v vs' h1 h2
   cases hm
   simp only [List.map_cons]
   unfold VRs
   exact ⟨_,_,rfl,hρ _ _ h1,zd1 hρ h2⟩
  ·cases hm
theorem ze6 {ρ:Operand → Option AV}{σ:Operand → Value}(hρ:∀ x v,ρ x=some v → VR S m v (σ x)):∀ {l:List (Nat × Operand)}{vs:List (Nat × AV)},ze8 ρ l=some vs →
  vs.map (·.1)=(l.map fun p=>(p.1,σ p.2)).map (·.1) ∧ VRs S m (vs.map (·.2)) ((l.map fun p=>(p.1,σ p.2)).map (·.2))
 | [],vs,hm=>by unfold ze8 at hm;cases hm;exact ⟨rfl,by simp;unfold VRs;rfl⟩
 | (i,x)::xs,vs,hm=>by
  unfold ze8 at hm
  split at hm
  ·rename_i v vs' h1 h2
   cases hm
   obtain ⟨e1,e2⟩:=ze6 hρ h2
   refine ⟨by simp only [List.map_cons,e1],?_⟩
   simp only [List.map_cons]
   unfold VRs
   exact ⟨_,_,rfl,hρ _ _ h1,e2⟩
  ·cases hm
theorem zhp {ρ:Operand → Option AV}{σ:Operand → Value}(hρ:∀ x v,ρ x=some v → VR S m v (σ x)) {o:Option Operand}{l:Option Int}(hm:optM ρ o=some l):VO l (o.map σ):=by
 unfold optM at hm
 split at hm
 ·cases hm;unfold VO;rfl
 ·split at hm
  ·rename_i k n hx
   cases hm
   have:=hρ _ _ hx
   unfold VR at this
   unfold VO
   exact ⟨k,by simp [this]⟩
  ·cases hm
end
section
variable {P:Program}{n₀:Nat}{w₀:World}{S₀ S:SM}{m:BM}{h:zaa}{w:World}
theorem zss {fits:TypeId → Bool}{e off n c c':Nat}(hc:c ≤ c'):∀ {d:Nat},rowAt P fits d e c off n=true → rowAt P fits d e c' off n=true
 | 0,h=>by unfold rowAt at h;cases h
 | d+1,h=>by
  unfold rowAt at h ⊢
  simp only at h ⊢
  split at h
  ·cases h
  ·rename_i hs
   rw [if_neg hs]
   simp only [Bool.or_eq_true,Bool.and_eq_true,decide_eq_true_eq] at h ⊢
   rcases h with ⟨⟨h1,h2⟩,h3⟩ | ⟨h1,h2⟩
   ·exact .inl ⟨⟨h1,by omega⟩,h3⟩
   ·exact .inr ⟨by omega,h2⟩
theorem zje {e off c c':Nat}(hc:c ≤ c'):∀ {d u n:Nat},liesAt P d e c off u n=true → liesAt P d e c' off u n=true
 | 0,_,_,h=>by unfold liesAt at h;cases h
 | d+1,u,n,h=>by
  unfold liesAt at h ⊢
  simp only [Bool.or_eq_true] at h ⊢
  rcases h with h | h
  ·exact .inl (zss hc h)
  ·right
   split at h
   ·exact zje hc h
   ·cases h
theorem zxp (s:Sim n₀ w₀ S₀ S m h w) {b ver frz el:Nat}{cs:List AV}(hb:h[b]?=some (.cells ver (some el) cs frz)) :
  ∃ B K vs fz,m b ver=some (B,K) ∧ w.heap[B]?=some (.cells vs el fz) ∧ vs.size=K ∧ cs.length ≤ K ∧ VRs S m cs (vs.toList.take cs.length) ∧ At S m w cs B 0 ∧ (∀ o,frz ≤ o → o<K → w.frozen? ⟨B,o,none⟩=false) ∧ (fz.1=0 ∨ fz.1=fz.2):=by
 obtain ⟨B,K,el',vs,fz,h1,h2,h3,h4,h5,h6,h7⟩:=zh9 s hb
 obtain ⟨B',K',el₁,vs',fz',a1,⟨a2,a2'⟩,a3,_⟩:=s.blk b _ hb
 rw [h1] at a1;cases a1
 rw [h2] at a3;cases a3
 obtain ⟨rfl,q⟩:=a2' _ rfl
 exact ⟨B,K,vs,fz,h1,h2,h3,h4,h5,h6,h7,q⟩
theorem zqm (s:Sim n₀ w₀ S₀ S m h w) {src dst:TypeId}{x r:AV}{a:Value}(hr:zhd P h src dst x=some r) (hx:VR S m x a) :
  ∃ v,(convert src dst a).run P w=.ok v w ∧ VR S m r v:=by
 unfold zhd at hr
 split at hr
 ·rename_i t hs hd
  split at hr
  ·cases hr
   unfold VR at hx;subst hx
   exact ⟨_,by simp [convert,zab hs,zab hd,Conv.unsafePointer];rfl,by unfold VR;rfl⟩
  ·rename_i b ver o
   split at hr
   ·rename_i ver' el cs frz d hb hti
    split at hr
    ·rename_i hc
     obtain ⟨rfl,c1,c2⟩:=hc
     cases hr
     have hx0:=hx
     unfold VR at hx
     obtain ⟨B,K,g1,rfl⟩:=hx
     obtain ⟨B',K',el₀,vs,fz,e1,e2,e3,e4,e5,e6,e7⟩:=zh9 s hb
     rw [g1] at e1;cases e1
     obtain ⟨_,i,z,hi,hi2,_⟩:=zdg hti
     exact ⟨_,Lib.run_to_unsafe w _ hs hd hi (by omega) (e:=el₀) (cells:=vs.size) (by simp [World.shape?,e2]) (by show o<vs.size;omega),hx0⟩
    ·cases hr
   ·cases hr
  ·cases hr
 ·rename_i u hs hd
  split at hr
  ·cases hr
   unfold VR at hx;subst hx
   exact ⟨_,by simp [convert,zab hs,zab hd,Conv.unsafePointer];rfl,by unfold VR;rfl⟩
  ·rename_i b ver o
   split at hr
   ·rename_i ver' el cs frz d hb hti
    split at hr
    ·rename_i hc
     obtain ⟨rfl,c1⟩:=hc
     cases hr
     have hx0:=hx
     unfold VR at hx
     obtain ⟨B,K,g1,rfl⟩:=hx
     obtain ⟨B',K',vs,fz,e1,e2,e3,e4,e5,e6,e7,e8⟩:=zxp s hb
     rw [g1] at e1;cases e1
     obtain ⟨_,i,z,hi,hi2,_⟩:=zdg hti
     exact ⟨_,Lib.run_from_unsafe w _ hs hd hi (e:=el) (cells:=vs.size) (by simp [World.shape?,e2]) (zje (Nat.div_le_div_right (by omega)) c1),hx0⟩
    ·cases hr
   ·cases hr
  ·cases hr
 ·cases hr
theorem zoj:∀ {l:List AV}{vs:List Value}{k:IntKind}{a n:Int},zjp (fun x y=>if y<x then y else x) a l=some n → VRs S m l vs → (vs.foldlM Builtin.min2 (.int k a)).run P w=.ok (.int k n) w
 | [],vs,k,a,n,hf,hv=>by
  unfold zjp at hf;cases hf
  unfold VRs at hv;subst hv
  simp
 | x::l,vs,k,a,n,hf,hv=>by
  unfold zjp at hf
  split at hf
  ·rename_i h1;cases h1
  ·rename_i h1;cases h1
   unfold VRs at hv
   obtain ⟨v,vs',rfl,h2,h3⟩:=hv
   unfold VR at h2;subst h2
   simp only [List.foldlM_cons,Builtin.min2,Sem.run_bind,Sem.run_pure,Result.andThen_ok]
   exact zoj hf h3
  ·cases hf
theorem zok:∀ {l:List AV}{vs:List Value}{k:IntKind}{a n:Int},zjp (fun x y=>if y > x then y else x) a l=some n → VRs S m l vs → (vs.foldlM Builtin.max2 (.int k a)).run P w=.ok (.int k n) w
 | [],vs,k,a,n,hf,hv=>by
  unfold zjp at hf;cases hf
  unfold VRs at hv;subst hv
  simp
 | x::l,vs,k,a,n,hf,hv=>by
  unfold zjp at hf
  split at hf
  ·rename_i h1;cases h1
  ·rename_i h1;cases h1
   unfold VRs at hv
   obtain ⟨v,vs',rfl,h2,h3⟩:=hv
   unfold VR at h2;subst h2
   simp only [List.foldlM_cons,Builtin.max2,Sem.run_bind,Sem.run_pure,Result.andThen_ok]
   exact zok hf h3
  ·cases hf
theorem zj3:∀ {cs:List AV}{l:List UInt8},zbe cs=some l → ∀ (i:Nat) (x:UInt8),l[i]?=some x → ∃ n:Int,cs[i]?=some (.int .u8 n) ∧ x=UInt8.ofNat n.toNat
 | [],l,h,i,x,hx=>by unfold zbe at h;cases h;simp at hx
 | c::cs,l,h,i,x,hx=>by
  unfold zbe at h
  split at h
  ·rename_i e;cases e
  ·rename_i n r e
   cases e
   cases ht:zbe cs with
   | none=>simp [ht] at h
   | some l' =>
    simp [ht] at h;subst h
    cases i with
    | zero=>simp at hx;exact ⟨n,rfl,hx.symm⟩
    | succ i=>simpa using zj3 ht i x (by simpa using hx)
  ·cases h
theorem zh7:∀ {cs:List AV}{l:List UInt8},zbe cs=some l → l.length=cs.length
 | [],l,h=>by unfold zbe at h;cases h;rfl
 | c::cs,l,h=>by
  unfold zbe at h
  split at h
  ·rename_i e;cases e
  ·rename_i n r e
   cases e
   cases ht:zbe cs with
   | none=>simp [ht] at h
   | some l'=>simp [ht] at h;subst h;simp [zh7 ht]
  ·cases h
theorem zsp (s:Sim n₀ w₀ S₀ S m h w) {b ver el frz n B K:Nat}{cs:List AV}(hb:h[b]?=some (.cells ver (some el) cs frz)) (hm:m b ver=some (B,K)) :
  Sim n₀ w₀ S₀ S m (h.set b (.cells ver (some el) cs (max frz n))) (w.freeze ⟨B,0,none⟩ n):=by
 obtain ⟨B',K',vs,fz,e1,e2,e3,e4,e5,e6,e7,e8⟩:=zxp s hb
 rw [hm] at e1;cases e1
 have hBlt:B<w.heap.size:=(Array.getElem?_eq_some_iff.1 e2).1
 obtain ⟨hn0,_⟩:=s.img hb rfl hm
 by_cases hn:n=0
 ·subst hn
  have e:h.set b (.cells ver (some el) cs (max frz 0))=h:=by
   apply List.ext_getElem?
   intro i
   rw [List.getElem?_set]
   split
   ·rename_i e;subst e
    split
    ·rw [hb];simp
    ·rename_i h';rw [List.getElem?_eq_none (by omega)]
   ·rfl
  rw [e]
  unfold World.freeze
  simpa using s
 have hheap:∀ i,(w.freeze ⟨B,0,none⟩ n).heap[i]?=if i=B then some (.cells vs el (if fz.1==fz.2 then (0,0+n) else (min fz.1 0,max fz.2 (0+n)))) else w.heap[i]?:=fun i=>by
  unfold World.freeze
  rw [if_neg hn]
  simp only [Array.getElem?_modify]
  by_cases e:B=i
  ·subst e;simp [e2]
  ·simp [e,Ne.symm e]
 have hcell:∀ a,(w.freeze ⟨B,0,none⟩ n).cell? a=w.cell? a:=fun a=>by
  unfold World.cell?
  rw [hheap]
  by_cases e:a.block=B
  ·rw [if_pos e,e,e2]
  ·rw [if_neg e]
 have hfz:∀ o,n ≤ o → w.frozen? ⟨B,o,none⟩=false → (w.freeze ⟨B,0,none⟩ n).frozen? ⟨B,o,none⟩=false:=fun o ho hf=>by
  unfold World.frozen? at hf ⊢
  simp only [hheap,if_true]
  simp only [e2] at hf
  obtain ⟨lo,hi⟩:=fz
  by_cases e:lo=hi
  ·simp only [e,beq_self_eq_true,if_true,Bool.and_eq_false_iff,decide_eq_false_iff_not];omega
  ·simp only [beq_iff_eq,e,if_false,Bool.and_eq_false_iff,decide_eq_false_iff_not] at hf ⊢
   have e9:lo=0 ∨ lo=hi:=e8
   omega
 have hfz':∀ C o,C≠B → (w.freeze ⟨B,0,none⟩ n).frozen? ⟨C,o,none⟩=w.frozen? ⟨C,o,none⟩:=fun C o hC=>by
  unfold World.frozen?
  simp only [hheap,if_neg hC]
 have hsz:(w.freeze ⟨B,0,none⟩ n).heap.size=w.heap.size:=by unfold World.freeze;rw [if_neg hn];simp
 refine ⟨fun c o v hv=>by rw [hcell];exact s.stable c o v hv,by rw [hsz];exact s.size,fun c hc=>?_,s.new,fun c x hx=>?_,?_,fun c v x hx=>by rw [List.length_set];exact s.lt c v x hx,s.env.trans (by unfold World.freeze;split<;>exact ⟨rfl,rfl,rfl⟩)⟩
 ·rw [hheap,if_neg (by omega)];exact s.old c hc
 ·rcases za0 hx with ⟨rfl,rfl⟩ | ⟨hne,hx⟩
  ·obtain ⟨B₁,K₁,el₁,vs₁,fz₁,a1,a2,a3,a4,a5,a6,a7,a8⟩:=s.blk c _ hb
   rw [hm] at a1;cases a1
   rw [e2] at a3;cases a3
   refine ⟨B,vs.size,el,vs,(if fz.1==fz.2 then (0,0+n) else (min fz.1 0,max fz.2 (0+n))),by rw [hm,e3],⟨a2.1,fun e he=>by cases he;exact ⟨rfl,by split<;>simp⟩⟩,by rw [hheap,if_pos rfl],rfl,a5,fun o ho=>a6 o (by omega),fun o ho hk=>hfz o (by omega) (a7 o (by omega) (by omega)),a8⟩
  ·cases x with
   | dead=>trivial
   | cells v2 el2 cs2 frz2 =>
    obtain ⟨C,L,el₁,vs₁,fz₁,a1,a2,a3,a4,a5,a6,a7,a8⟩:=s.blk c _ hx
    have hC:C≠B:=fun e=>by
     subst e
     exact s.inj c b _ _ v2 ver C L K hne hx hb rfl rfl a1 hm
    exact ⟨C,L,el₁,vs₁,fz₁,a1,a2,by rw [hheap,if_neg hC];exact a3,a4,a5,a6,fun o ho hk=>by rw [hfz' _ _ hC];exact a7 o ho hk,a8⟩
   | map es =>
    obtain ⟨C,L,en,cl,a1,a2,a3,a4,a5,a6⟩:=s.blk c _ hx
    have hC:C≠B:=fun e=>by
     subst e
     exact s.inj c b _ _ 0 ver C L K hne hx hb rfl rfl a1 hm
    exact ⟨C,L,en,cl,a1,a2,by rw [hheap,if_neg hC];exact a3,a4,a5,a6⟩
   | dfd =>
    obtain ⟨C,L,a1,a2,a3,a5,a6⟩:=s.blk c _ hx
    have hC:C≠B:=fun e=>by
     subst e
     exact s.inj c b _ _ 0 ver C L K hne hx hb rfl rfl a1 hm
    exact ⟨C,L,a1,a2,by rw [hheap,if_neg hC];exact a3,a5,a6⟩
   | loop busy tms ps asg body db =>
    obtain ⟨C,L,D,fn,ts,a1,a2,a3,a4,a5,a6⟩:=s.blk c _ hx
    have hC:C≠B:=fun e=>by
     subst e
     exact s.inj c b _ _ 0 ver C L K hne hx hb rfl rfl a1 hm
    exact ⟨C,L,D,fn,ts,a1,a2,by rw [hheap,if_neg hC];exact a3,a4,a5,a6⟩
 ·intro c c' x x' v v' C L L' hne hx hx' hv1 hv2 h1 h2
  rcases za0 hx with ⟨rfl,rfl⟩ | ⟨hc,gx⟩<;>rcases za0 hx' with ⟨rfl,rfl⟩ | ⟨hc',gx'⟩
  ·exact hne rfl
  ·cases hv1;exact s.inj c c' _ x' ver v' C L L' hne hb gx' rfl hv2 h1 h2
  ·cases hv2;exact s.inj c c' x _ v ver C L L' hne gx hb hv1 rfl h1 h2
  ·exact s.inj c c' x x' v v' C L L' hne gx gx' hv1 hv2 h1 h2
theorem vrs1 {x:AV}{vs:Array Value}(hv:VRs S m [x] vs.toList):∃ v,vs=#[v] ∧ VR S m x v:=by
 obtain ⟨vs⟩:=vs
 unfold VRs at hv
 obtain ⟨v,vs',e,hx,hv⟩:=hv
 unfold VRs at hv
 simp only at e hv;subst hv;subst e
 exact ⟨v,rfl,hx⟩
theorem vrs2 {x y:AV}{vs:Array Value}(hv:VRs S m [x,y] vs.toList):∃ v u,vs=#[v,u] ∧ VR S m x v ∧ VR S m y u:=by
 obtain ⟨vs⟩:=vs
 unfold VRs at hv
 obtain ⟨v,vs',e,hx,hv⟩:=hv
 unfold VRs at hv
 obtain ⟨v',vs'',e',hy,hv⟩:=hv
 unfold VRs at hv
 simp only at e e' hv;subst hv;subst e';subst e
 exact ⟨v,v',rfl,hx,hy⟩
theorem arr1 {α:Type}{ts:Array α}{t:α}(h:ts.toList=[t]):ts=#[t]:=by cases ts;simp at h;simp [h]
theorem arr2 {α:Type}{ts:Array α}{t u:α}(h:ts.toList=[t,u]):ts=#[t,u]:=by cases ts;simp at h;simp [h]
theorem Fits.val' (s:Sim n₀ w₀ S₀ S m h w) {q:Sem Value}{x:AV}{v:Value}(hr:q.run P w=.ok v w) (hv:VR S m x v):Fits P n₀ w₀ S₀ S m h w ((do pure (.value (← q)):Sem Next).run P w) (.val x) :=
 .same s (by simp [hr]) hv
theorem MR.length:∀ {es:List (AV × AV)}{l:List MapEntry},MR S m es l → es.length=l.length
 | [],l,hm=>by unfold MR at hm;subst hm;rfl
 | (k,v)::r,l,hm=>by
  unfold MR at hm
  obtain ⟨e,es',rfl,_,_,h3⟩:=hm
  simp [MR.length h3]
theorem zou (s:Sim n₀ w₀ S₀ S m h w) {b:Builtin}{ts:Array TypeId}{ty:TypeId}{cs:Array Bool}{args:List AV}{vs:Array Value}{r:R}(hr:zdt P h b ts.toList args=some r) (hv:VRs S m args vs.toList) :
  Fits P n₀ w₀ S₀ S m h w ((builtin b ts ty cs vs).run P w) r:=by
 unfold zdt at hr
 split at hr
 ·split at hr
  ·rename_i t b hts
   have ht0:=arr1 hts;subst ht0
   split at hr
   ·rename_i kt e es ht hb
    cases hr
    obtain ⟨v,rfl,hx⟩:=vrs1 hv
    unfold VR at hx
    obtain ⟨B,K,h1,rfl⟩:=hx
    obtain ⟨B',K',ents,clock,g1,g2,g3,g4,_⟩:=s.blk b _ hb
    rw [h1] at g1
    cases g1
    exact .val' s (q:=Builtin.len_ #[t] ty _) (v:=.int .i64 ents.size) (by simp [Builtin.len_,zab ht,MapKept.run_getObj_map g3,goInt]) (by unfold VR;rw [MR.length g4];simp)
   ·cases hr
  ·cases hr
 ·split at hr
  ·rename_i k a l
   cases hf:zjp (fun x y=>if y<x then y else x) a l with
   | none=>simp [hf] at hr
   | some n =>
    simp [hf] at hr;subst hr
    obtain ⟨vs⟩:=vs
    unfold VRs at hv
    obtain ⟨v,vs',e,hx,hv⟩:=hv
    simp only at e;subst e
    unfold VR at hx;subst hx
    exact .val' s (q:=Builtin.min_ ts ty _) (v:=.int k n) (by simp only [Builtin.min_];exact zoj hf hv) (by unfold VR;rfl)
  ·cases hr
 ·split at hr
  ·rename_i k a l
   cases hf:zjp (fun x y=>if y > x then y else x) a l with
   | none=>simp [hf] at hr
   | some n =>
    simp [hf] at hr;subst hr
    obtain ⟨vs⟩:=vs
    unfold VRs at hv
    obtain ⟨v,vs',e,hx,hv⟩:=hv
    simp only at e;subst e
    unfold VR at hx;subst hx
    exact .val' s (q:=Builtin.max_ ts ty _) (v:=.int k n) (by simp only [Builtin.max_];exact zok hf hv) (by unfold VR;rfl)
  ·cases hr
 ·split at hr
  ·rename_i t sz xs hts
   have ht0:=arr1 hts;subst ht0
   split at hr
   ·rename_i e ht
    cases hr
    obtain ⟨v,rfl,hx⟩:=vrs1 hv
    unfold VR at hx
    obtain ⟨a,cap,rfl,g1,g2,g3⟩:=hx
    exact .val' s (q:=Builtin.cap_ #[t] ty _) (v:=.int .i64 xs.length) (by simp [Builtin.cap_,zab ht,goInt,(g2 rfl).1]) (by unfold VR;rfl)
   ·cases hr
  ·cases hr
 ·split at hr
  ·cases hr
   obtain ⟨v,rfl,hx⟩:=vrs1 hv
   unfold VR at hx
   obtain ⟨a,cap,rfl,g1,g2,g3⟩:=hx
   obtain ⟨g4,g5⟩:=g2 rfl
   have g6:=g5 rfl;subst g6
   exact .val' s (q:=Builtin.unsafeSliceData_ ts ty _) (v:=.pointer none) (Lib.run_unsafeSliceData_nil _ ts ty _ _) (by unfold VR;rfl)
  ·rename_i sz b ver o len
   split at hr
   ·rename_i hl
    cases hr
    obtain ⟨v,rfl,hx⟩:=vrs1 hv
    unfold VR at hx
    obtain ⟨B,K,cap,g1,rfl,g2,g3⟩:=hx
    exact .val' s (q:=Builtin.unsafeSliceData_ ts ty _) (v:=.pointer (some ⟨B,o,none⟩)) (Lib.run_unsafeSliceData_row _ ts ty _ _ _ (by omega)) (by unfold VR;exact ⟨B,K,g1,rfl⟩)
   ·cases hr
  ·cases hr
 ·split at hr
  ·rename_i pt it p n hts
   have ht0:=arr2 hts;subst ht0
   obtain ⟨v,u,rfl,hx,hy⟩:=vrs2 hv
   unfold VR at hy;subst hy
   split at hr
   ·rename_i hn
    subst hn
    split at hr
    ·cases hr
     unfold VR at hx;subst hx
     exact .val' s (q:=Builtin.unsafeString_ #[pt,it] ty _) (v:=.string .empty) (Lib.run_unsafeString_none _ pt it ty _) (by unfold VR;rfl)
    ·cases hr
     unfold VR at hx
     obtain ⟨B,K,g1,rfl⟩:=hx
     exact .val' s (q:=Builtin.unsafeString_ #[pt,it] ty _) (v:=.string .empty) (Lib.run_unsafeString_none _ pt it ty _) (by unfold VR;rfl)
    ·cases hr
   ·rename_i hn
    split at hr
    ·rename_i b ver e hpt
     split at hr
     ·rename_i ver' el cs frz d hb hti
      split at hr
      ·rename_i hc
       obtain ⟨rfl,rfl,c1,c2,c3,c4,c5⟩:=hc
       cases hl:zbe (cs.take n.toNat) with
       | none=>simp [hl] at hr
       | some l =>
        simp [hl] at hr;subst hr
        unfold VR at hx
        obtain ⟨B,K,g1,rfl⟩:=hx
        obtain ⟨B',K',vs,fz,e1,e2,e3,e4,e5,e6,e7,e8⟩:=zxp s hb
        rw [g1] at e1;cases e1
        have hll:=zh7 hl
        have hlen:l.length=n.toNat:=by rw [hll,List.length_take];omega
        have hne:l≠[]:=fun e=>by subst e;simp at hlen;omega
        have hnn:(n:Int)=(l.length:Int):=by omega
        have hrun:=Lib.run_unsafeString_row (P:=P) w pt it ty el hpt (by rw [zsa hti];exact c1) B vs.size (by simp [World.shape?,e2]) l hne (by omega) (by omega) (fun j x hx=>by
         obtain ⟨k,h1,h2⟩:=zj3 hl j x hx
         have hj:cs[j]?=some (.int .u8 k):=by
          rw [List.getElem?_take] at h1
          split at h1
          ·exact h1
          ·cases h1
         obtain ⟨v,q1,q2⟩:=e6 j _ hj
         unfold VR at q2;subst q2
         rw [zc0]
         rw [q1]
         have hin:AV.byteB (.int .u8 k)=true:=List.all_eq_true.1 c5 _ (List.mem_of_getElem? h1)
         simp only [AV.byteB,Bool.and_eq_true,decide_eq_true_eq] at hin
         rw [h2]
         congr 2
         rw [UInt8.toNat_ofNat_of_lt' (by show k.toNat<256;omega)]
         omega)
        rw [← hnn] at hrun
        refine ⟨_,_,_,S,m,by simp only [builtin,Sem.run_bind,hrun,Result.andThen_ok];rfl,.inl rfl,SM.le_refl _,BM.le_refl _,by unfold VR;rfl,?_⟩
        rw [hlen]
        exact zsp s hb g1
      ·cases hr
     ·cases hr
    ·cases hr
  ·cases hr
 ·cases hr
theorem zov {fn:Func}(hn:fn.name = "internal/abi.NoEscape") (ho:fn.origin = ""):Extern.findNext fn=Option.none ∧ Extern.find fn=some Extern.AbiNoEscape.same:=by
 have h1:Extern.allNextRows.lookup "internal/abi.NoEscape" = Option.none:=by kernel_rfl
 have h2:Extern.allNextRows.lookup "" = Option.none:=by kernel_rfl
 have h3:Extern.allGenericRows.lookup "internal/abi.NoEscape" = Option.none:=by kernel_rfl
 have h4:Extern.allTypedRows.lookup "internal/abi.NoEscape" = Option.none:=by kernel_rfl
 have h5:Extern.allRows.lookup "internal/abi.NoEscape" = some Extern.AbiNoEscape.same:=by kernel_rfl
 constructor
 ·simp only [Extern.findNext,hn,ho,h1,h2];rfl
 ·simp only [Extern.find,hn,h3,h4,h5];rfl
theorem zkp {fn:Func}(hn:fn.name = "internal/bytealg.MakeNoZero") (ho:fn.origin = ""):Extern.findNext fn=Option.none ∧ Extern.find fn=some (Extern.BytealgMakeNoZero.makeNoZero fn.params fn.resultTypes):=by
 have h1:Extern.allNextRows.lookup "internal/bytealg.MakeNoZero" = Option.none:=by kernel_rfl
 have h2:Extern.allNextRows.lookup "" = Option.none:=by kernel_rfl
 have h3:Extern.allGenericRows.lookup "internal/bytealg.MakeNoZero" = Option.none:=by kernel_rfl
 have h4:Extern.allTypedRows.lookup "internal/bytealg.MakeNoZero" = some Extern.BytealgMakeNoZero.makeNoZero:=by kernel_rfl
 constructor
 ·simp only [Extern.findNext,hn,ho,h1,h2];rfl
 ·simp only [Extern.find,hn,h3,h4];rfl
theorem ztl (s:Sim n₀ w₀ S₀ S m h w) {f:FuncId}{args:List AV}{vs:Array Value}{r:R}(hr:extA P h f args=some r) (hv:VRs S m args vs.toList):Fits P n₀ w₀ S₀ S m h w ((callFunc f vs).run P w) r:=by
 unfold extA at hr
 split at hr
 ·cases hr
 ·rename_i fn hfn
  split at hr
  ·rename_i hb
   obtain ⟨hb,ho⟩:=hb
   split at hr
   ·rename_i hn
    split at hr
    ·rename_i x
     cases hr
     obtain ⟨v,rfl,hx⟩:=vrs1 hv
     obtain ⟨k1,k2⟩:=zov hn ho
     refine .same s (v:=v) ?_ hx
     rw [run_callFunc_extern hfn (by rw [hn];rfl) hb k1 k2]
     rfl
    ·cases hr
   ·split at hr
    ·rename_i hn
     split at hr
     ·rename_i t n hts
      split at hr
      ·rename_i e ht
       split at hr
       ·rename_i hc
        obtain ⟨c1,c2⟩:=hc
        cases hr
        obtain ⟨v,rfl,hx⟩:=vrs1 hv
        unfold VR at hx;subst hx
        obtain ⟨k1,k2⟩:=zkp hn ho
        obtain ⟨N,rfl⟩ : ∃ N:Nat,n=N:=⟨n.toNat,by omega⟩
        have hts':=arr1 hts
        obtain ⟨cs,q1,q2,q3⟩:=Lib.run_makeNoZero (P:=P) w fn.params t e ht N (by omega)
        have sd:Sim n₀ w₀ S₀ S m h w.drew.drew:=s.heap rfl ⟨rfl,rfl,rfl⟩
        obtain ⟨j1,j2⟩:=sd.alloc cs e (0,0) [] (el':=some e) (fun _ he=>by cases he;exact ⟨rfl,.inl rfl⟩) (by unfold VRs;simp) (by simp)
        refine ⟨_,.slice (some ⟨w.heap.size,0,none⟩) N cs.size,_,S,_,?_,.inl rfl,SM.le_refl _,j1,?_,j2⟩
        ·rw [run_callFunc_extern hfn (by rw [hn];rfl) hb k1 k2,hts',q1]
         rfl
        ·unfold VR
         exact ⟨w.heap.size,cs.size,cs.size,BM.put_eq _ _ _ _,by simp,by simpa using q2,by simp⟩
       ·cases hr
      ·cases hr
     ·cases hr
    ·cases hr
  ·cases hr
theorem zs6 {t:TypeId}{name:String}{f:FuncId}(hm:zs7 P t name=some f) (v:Value):∀ n,(method (n+1) t v name).run P w=.ok (f,v) w:=by
 intro n
 unfold zs7 at hm
 split at hm
 ·cases hm
 ·rename_i i hi
  split at hm
  ·rename_i mm d hf hu
   split at hm
   ·rename_i g pr hfn
    rw [Option.ite_none_right_eq_some] at hm
    obtain ⟨hc,e⟩:=hm
    cases e
    simp only [Bool.and_eq_true] at hc
    obtain ⟨hp,hd⟩:=hc
    have hpl:mm.path.toList=[]:=by simpa using hp
    simp only [method,typeInfo,hi,hf,hpl,follow,hfn,hp,Sem.run_bind,run_program,Sem.run_pure,Result.andThen_ok,if_true]
    cases d<;>simp only [Bool.not_eq_true'] at hd<;>subst hd<;>simp [receiverAt,zab hu,Place.get]
   ·cases hm
  ·cases hm
theorem zo9 {x r:AV}{xt t:TypeId}{ok:Bool}{a:Value}(hr:zj9 P x t ok=some r) (hx:VR S m x a):∃ v,(Instr.typeAssert a xt t ok).run P w=.ok v w ∧ VR S m r v:=by
 unfold zj9 at hr
 simp only at hr
 have hf:∀ {r:AV}(st dy:Option TypeId) (ms:String),(if ok=true ∧ (ti P t).isSome=true then some (AV.tup [.undef,.bool false]) else none)=some r →
   ∃ v,((do if ok then pure (.tuple #[← zeroValue t,.bool false]) else runtimePanic (.typeAssertion st dy t ms)):Sem Value).run P w=.ok v w ∧ VR S m r v:=fun st dy ms e=>by
  split at e
  ·rename_i hc
   cases e
   obtain ⟨rfl,hti⟩:=hc
   obtain ⟨d,hd⟩:=Option.isSome_iff_exists.1 hti
   obtain ⟨z,z1,z2⟩:=ze1 hd w
   refine ⟨_,by simp [z1];rfl,?_⟩
   unfold VR
   exact ⟨_,rfl,by simp only;unfold VRs;exact ⟨_,_,rfl,by unfold VR;trivial,by unfold VRs;exact ⟨_,_,rfl,by unfold VR;rfl,by unfold VRs;rfl⟩⟩⟩
  ·cases e
 have hh:∀ {y r:AV}{u:Value},(some (if ok=true then AV.tup [y,.bool true] else y))=some r → VR S m y u → ∃ v,((pure (if ok then .tuple #[u,.bool true] else u)):Sem Value).run P w=.ok v w ∧ VR S m r v:=fun e hu=>by
  cases e
  refine ⟨_,by simp;rfl,?_⟩
  cases ok
  ·exact hu
  ·simp only [if_true]
   unfold VR
   exact ⟨_,rfl,by simp only;unfold VRs;exact ⟨_,_,rfl,hu,by unfold VRs;exact ⟨_,_,rfl,by unfold VR;rfl,by unfold VRs;rfl⟩⟩⟩
 unfold Instr.typeAssert
 split at hr
 ·rename_i want ht
  split at hr
  ·unfold VR at hx;subst hx
   simp only [Sem.run_bind,zab ht,Result.andThen_ok]
   exact hf _ _ _ hr
  ·rename_i t' y
   have hx0:=hx
   unfold VR at hx;obtain ⟨u,rfl,hu⟩:=hx
   split at hr
   ·rename_i i hi
    simp only [Sem.run_bind,zab ht,Result.andThen_ok,typeInfo,run_program,hi,Sem.run_pure]
    split at hr
    ·rename_i hmm
     simp only [hmm]
     exact hh hr hx0
    ·rename_i mm hmm
     simp only [hmm]
     exact hf _ _ _ hr
   ·cases hr
  ·cases hr
 ·rename_i dd hni ht
  split at hr
  ·unfold VR at hx;subst hx
   simp only [Sem.run_bind,zab ht,Result.andThen_ok]
   have:=hf (some xt) Option.none "" hr
   cases dd<;>first | exact this | exact (hni _ rfl).elim
  ·rename_i t' y
   unfold VR at hx;obtain ⟨u,rfl,hu⟩:=hx
   simp only [Sem.run_bind,zab ht,Result.andThen_ok]
   split at hr
   ·rename_i e
    have:=hh hr hu
    cases dd<;>first | (simpa only [e,if_true] using this) | exact (hni _ rfl).elim
   ·rename_i e
    have:=hf (some xt) (some t') "" hr
    cases dd<;>first | (simpa only [e,if_false] using this) | exact (hni _ rfl).elim
  ·cases hr
 ·cases hr
end
section
variable {P:Program}{n₀:Nat}{w₀:World}{S₀ S:SM}{m:BM}{h:zaa}{w:World}
theorem zg4 {d:TypeDesc}{k:AV}{v:Value}(hk:zd3 d k=true) (hv:VR S m k v):MapKept.IsKey d v:=by
 cases k with
 | int q a =>
  cases d with
  | int q' =>
   have h1:q=q':=by simpa [zd3] using hk
   unfold VR at hv
   subst hv h1
   exact rfl
  | _=>simp [zd3] at hk
 | str s =>
  cases d with
  | string =>
   unfold VR at hv
   subst hv
   trivial
  | _=>simp [zd3] at hk
 | _=>simp [zd3] at hk
theorem zv8 {d:TypeDesc}{k k':AV}{v v':Value}(hk:zd3 d k=true) (hk':zd3 d k'=true) (hv:VR S m k v) (hv':VR S m k' v'):zv9 k k'=true ↔ v=v':=by
 cases k with
 | int q a =>
  cases d with
  | int q' =>
   have h1:q=q':=by simpa [zd3] using hk
   cases k' with
   | int r b =>
    have h2:r=q':=by simpa [zd3] using hk'
    unfold VR at hv hv'
    subst hv hv' h1 h2
    simp [zv9]
   | _=>simp [zd3] at hk'
  | _=>simp [zd3] at hk
 | str s =>
  cases d with
  | string =>
   cases k' with
   | str t =>
    unfold VR at hv hv'
    subst hv hv'
    simp [zv9]
   | _=>simp [zd3] at hk'
  | _=>simp [zd3] at hk
 | _=>simp [zd3] at hk
theorem zgf {d:TypeDesc}{k:AV}{kv:Value}(hk:zd3 d k=true) (hv:VR S m k kv):∀ (es:List (AV × AV)) (l:List MapEntry) (i:Nat),MR S m es l → es.all (fun p=>zd3 d p.1)=true →
  (zn4 k es i=none ∧ Instr.findNow d kv l i=some none) ∨ ∃ j v e,zn4 k es i=some (i+j,v) ∧ Instr.findNow d kv l i=some (some (i+j,e.val)) ∧ l[j]?=some e ∧ e.key=kv ∧ VR S m v e.val
 | [],l,i,hm,_=>by
  unfold MR at hm
  subst hm
  exact .inl ⟨rfl,rfl⟩
 | (k',v)::r,l,i,hm,ha=>by
  unfold MR at hm
  obtain ⟨e,es',rfl,h1,h2,h3⟩:=hm
  rw [List.all_cons,Bool.and_eq_true] at ha
  obtain ⟨a1,a2⟩:=ha
  have heq:=zv8 hk a1 hv h1
  obtain ⟨b,hb,hiff⟩:=MapKept.sameNow_of_keys (zg4 hk hv) (zg4 a1 h1)
  cases b with
  | true =>
   have hkv:=hiff.1 rfl
   refine .inr ⟨0,v,e,?_,?_,rfl,hkv.symm,h2⟩
   ·unfold zn4;rw [if_pos (heq.2 hkv)];rfl
   ·simp [Instr.findNow,hb]
  | false =>
   have hne:¬ zv9 k k'=true:=fun q=>by have:=hiff.2 (heq.1 q);cases this
   rcases zgf hk hv r es' (i+1) h3 a2 with ⟨g1,g2⟩ | ⟨j,v',e',g1,g2,g3,g4,g5⟩
   ·refine .inl ⟨?_,?_⟩
    ·unfold zn4;rw [if_neg hne];exact g1
    ·simp [Instr.findNow,hb,g2]
   ·refine .inr ⟨j+1,v',e',?_,?_,by simpa using g3,g4,g5⟩
    ·unfold zn4;rw [if_neg hne,g1];congr 2;omega
    ·simp [Instr.findNow,hb,g2];omega
theorem MR.push:∀ {es:List (AV × AV)}{l:List MapEntry}{k v:AV}{e:MapEntry},MR S m es l → VR S m k e.key → VR S m v e.val → MR S m (es++[(k,v)]) (l++[e])
 | [],l,k,v,e,hm,h1,h2=>by
  unfold MR at hm
  subst hm
  exact ⟨e,[],rfl,h1,h2,rfl⟩
 | (k',v')::r,l,k,v,e,hm,h1,h2=>by
  unfold MR at hm
  obtain ⟨e',es',rfl,a1,a2,a3⟩:=hm
  exact ⟨e',es'++[e],rfl,a1,a2,MR.push a3 h1 h2⟩
theorem MR.set:∀ {es:List (AV × AV)}{l:List MapEntry}{k v:AV}(j:Nat) (f:MapEntry → MapEntry),MR S m es l → (∀ e,l[j]?=some e → VR S m k (f e).key ∧ VR S m v (f e).val) → MR S m (es.set j (k,v)) (l.modify j f)
 | [],l,k,v,j,f,hm,_=>by
  unfold MR at hm
  subst hm
  simp [MR]
 | (k',v')::r,l,k,v,j,f,hm,hf=>by
  unfold MR at hm
  obtain ⟨e',es',rfl,a1,a2,a3⟩:=hm
  cases j with
  | zero =>
   obtain ⟨b1,b2⟩:=hf e' rfl
   exact ⟨f e',es',rfl,b1,b2,a3⟩
  | succ j=>exact ⟨e',es'.modify j f,by simp,a1,a2,MR.set j f a3 fun e he=>hf e (by simpa using he)⟩
theorem zp0 (s:Sim n₀ w₀ S₀ S m h w) {a:AV}{x:Value}{es:List (AV × AV)}(he:z2u h a=some es) (hv:VR S m a x):(x=.map none ∧ es=[]) ∨ ∃ B ents clock,x=.map (some B) ∧ w.heap[B]?=some (.map ents clock) ∧ MR S m es ents.toList:=by
 unfold z2u at he
 split at he
 ·cases he
  unfold VR at hv
  exact .inl ⟨hv,rfl⟩
 ·rename_i b
  split at he
  ·rename_i es' hb
   cases he
   unfold VR at hv
   obtain ⟨B,K,h1,h2⟩:=hv
   obtain ⟨B',K',ents,clock,g1,g2,g3,g4,_⟩:=s.blk b _ hb
   rw [h1] at g1
   cases g1
   exact .inr ⟨B,ents,clock,h2,g3,g4⟩
  ·cases he
 ·cases he
theorem zp3 (s:Sim n₀ w₀ S₀ S m h w) {t:TypeId}{a k v:AV}{x y:Value}{ok:Bool}(hl:zzp P h t a k ok=some v) (ha:VR S m a x) (hk:VR S m k y):∃ u,(Instr.lookup t x y ok).run P w=.ok u w ∧ VR S m v u:=by
 unfold zzp at hl
 split at hl
 ·rename_i kt e ht
  split at hl
  ·rename_i d es hd hes
   split at hl
   ·rename_i hc
    rw [Bool.and_eq_true] at hc
    obtain ⟨c1,c2⟩:=hc
    have hkey:=zg4 c1 hk
    have main:∀ (ents:Array MapEntry),MR S m es ents.toList → ∃ (r:Option (Nat × Value)) (u:Value),Instr.findNow d y ents.toList 0=some r ∧ (∀ j z,r=some (j,z) → u=z) ∧ (r=none → (zeroValue e).run P w=.ok u w) ∧ VR S m v (if ok then .tuple #[u,.bool r.isSome] else u):=fun ents hm=>by
     have pair:∀ (a:AV) (u:Value) (b:Bool),VR S m a u → VR S m (.tup [a,.bool b]) (.tuple #[u,.bool b]):=fun a u b ha=>by
      unfold VR
      exact ⟨_,rfl,by unfold VRs;exact ⟨_,_,rfl,ha,by unfold VRs;exact ⟨_,_,rfl,by unfold VR;rfl,by unfold VRs;rfl⟩⟩⟩
     rcases zgf c1 hk es ents.toList 0 hm c2 with ⟨g1,g2⟩ | ⟨j,v',e',g1,g2,g3,g4,g5⟩
     ·rw [g1] at hl
      simp only at hl
      split at hl
      ·rename_i z hz
       unfold zeroV at hz
       split at hz
       ·rename_i i hi
        split at hz
        ·rename_i zv hzv
         have hzr:=zn3 (S:=S) (m:=m) hz
         refine ⟨none,zv,g2,(fun j z h=>by cases h),fun _=>by simp [zeroValue,typeInfo,hi,hzv],?_⟩
         cases ok with
         | true=>cases hl;exact pair _ _ _ hzr
         | false=>cases hl;exact hzr
        ·cases hz
       ·cases hz
      ·cases hl
     ·rw [g1] at hl
      simp only at hl
      refine ⟨_,e'.val,g2,(fun j z h=>by cases h;rfl),(fun h=>by cases h),?_⟩
      cases ok with
      | true=>cases hl;exact pair _ _ _ g5
      | false=>cases hl;exact g5
    have fin:∀ (ents:Array MapEntry) (r:Option (Nat × Value)) (u:Value),Instr.findNow d y ents.toList 0=some r → (∀ j z,r=some (j,z) → u=z) → (r=none → (zeroValue e).run P w=.ok u w) → (x=.map none ∧ ents=#[] ∨ ∃ B clock,x=.map (some B) ∧ w.heap[B]?=some (.map ents clock)) → (Instr.lookup t x y ok).run P w=.ok (if ok then .tuple #[u,.bool r.isSome] else u) w:=fun ents r u hf h1 h2 hx=>by
     rcases hx with ⟨rfl,rfl⟩ | ⟨B,clock,rfl,hB⟩
     ·have hr:r=none:=by simpa [Instr.findNow] using hf.symm
      subst hr
      have hz:=h2 rfl
      simp [Instr.lookup,zab ht,MapKept.run_checkKey hd hkey,MapKept.run_findKey hd hf,hz,Result.andThen]
     ·cases r with
      | none =>
       have hz:=h2 rfl
       simp [Instr.lookup,zab ht,MapKept.run_getObj_map hB,MapKept.run_checkKey hd hkey,MapKept.run_findKey hd hf,hz,Result.andThen]
      | some p =>
       obtain ⟨j,z⟩:=p
       have hz:=h1 j z rfl
       subst hz
       simp [Instr.lookup,zab ht,MapKept.run_getObj_map hB,MapKept.run_checkKey hd hkey,MapKept.run_findKey hd hf,Result.andThen]
    rcases zp0 s hes ha with ⟨rfl,rfl⟩ | ⟨B,ents,clock,rfl,hB,hm⟩
    ·obtain ⟨r,u,f1,f2,f3,f4⟩:=main #[] (by unfold MR;rfl)
     exact ⟨_,fin #[] r u f1 f2 f3 (.inl ⟨rfl,rfl⟩),f4⟩
    ·obtain ⟨r,u,f1,f2,f3,f4⟩:=main ents hm
     exact ⟨_,fin ents r u f1 f2 f3 (.inr ⟨B,clock,rfl,hB⟩),f4⟩
   ·cases hl
  ·cases hl
 ·cases hl
theorem zkx (s:Sim n₀ w₀ S₀ S m h w) {t:TypeId}{a k v:AV}{x y z:Value}{h':zaa}(hl:updA P h t a k v=some h') (ha:VR S m a x) (hk:VR S m k y) (hv:VR S m v z):∃ w',(Instr.mapUpdate t x y z).run P w=.ok () w' ∧ Sim n₀ w₀ S₀ S m h' w':=by
 unfold updA at hl
 split at hl
 ·rename_i kt e b ht
  split at hl
  ·rename_i d es hd hb
   split at hl
   ·rename_i hc
    rw [Bool.and_eq_true] at hc
    obtain ⟨c1,c2⟩:=hc
    have hkey:=zg4 c1 hk
    unfold VR at ha
    obtain ⟨B,K,h1,rfl⟩:=ha
    obtain ⟨B',K',ents,clock,g1,g2,g3,g4,g5,g6⟩:=s.blk b _ hb
    have g1':=g1
    rw [h1] at g1
    cases g1
    rcases zgf c1 hk es ents.toList 0 g4 c2 with ⟨e1,e2⟩ | ⟨j,v',e',e1,e2,e3,e4,e5⟩
    ·rw [e1] at hl
     cases hl
     refine ⟨w.putObj B (.map (ents.push { key:=y,val:=z,born:=clock }) (clock+1)),?_,?_⟩
     ·simp [Instr.mapUpdate,zab ht,MapKept.run_getObj_map g3,MapKept.run_checkKey hd hkey,MapKept.run_findKey hd e2,MapKept.run_setObj_map _ g3,Result.andThen,World.putObj]
     ·refine s.turn hb rfl h1 _ _ (fun v hv=>by cases hv;rfl) g5 ⟨B,K,ents.push { key:=y,val:=z,born:=clock },clock+1,h1,g2,?_,?_,g5,g6⟩
      ·unfold World.putObj
       exact (MapKept.heap_set g3).1
      ·rw [Array.toList_push]
       exact g4.push hk hv
    ·rw [e1] at hl
     simp only [Nat.zero_add] at hl e2
     cases hl
     have hj:ents[j]?=some e':=by simpa using e3
     refine ⟨w.putObj B (.map (ents.modify j fun e=>{ e with key:=y,val:=z }) clock),?_,?_⟩
     ·simp [Instr.mapUpdate,zab ht,MapKept.run_getObj_map g3,MapKept.run_checkKey hd hkey,MapKept.run_findKey hd e2,hj,e4,MapKept.run_keyThatStays hkey,MapKept.run_setObj_map _ g3,Result.andThen,World.putObj]
     ·refine s.turn hb rfl h1 _ _ (fun v hv=>by cases hv;rfl) g5 ⟨B,K,ents.modify j fun e=>{ e with key:=y,val:=z },clock,h1,g2,?_,?_,g5,g6⟩
      ·unfold World.putObj
       exact (MapKept.heap_set g3).1
      ·rw [Array.toList_modify]
       exact g4.set j _ fun e he=>⟨hk,hv⟩
   ·cases hl
  ·cases hl
 ·cases hl
end
section
variable {P:Program}{n₀:Nat}{w₀:World}{S₀ S:SM}{m:BM}{h:zaa}{w:World}
theorem znb (k:IntKind) (n:Int):VR S m (.int k n) (.int k n):=by unfold VR;rfl
theorem zul (b:Bool):VR S m (.bool b) (.bool b):=by unfold VR;rfl
theorem z00 {cs:List AV}{vs:Array Value}(hv:VRs S m cs vs.toList):VR S m (.agg cs) (.agg vs):=by unfold VR;exact ⟨_,rfl,hv⟩
theorem Fits.of_run (s:Sim n₀ w₀ S₀ S m h w) {q:Sem Value}{x:AV}(hq:∃ v,q.run P w=.ok v w ∧ VR S m x v):Fits P n₀ w₀ S₀ S m h w ((do pure (.value (← q)):Sem Next).run P w) (.val x):=by
 obtain ⟨v,h1,h2⟩:=hq
 exact .same s (by simp [h1]) h2
theorem Fits.ofRes {q:Sem Value}{o:Option (AV × Option zaa)}{r:R}(hr:ofRes o=some r) (hq:∀ x oh,o=some (x,oh) → ∃ v w' m',q.run P w=.ok v w' ∧ m.le m' ∧ VR S m' x v ∧ Sim n₀ w₀ S₀ S m' (oh.getD h) w') :
  Fits P n₀ w₀ S₀ S m h w ((do pure (.value (← q)):Sem Next).run P w) r:=by
 unfold Abs.ofRes at hr
 split at hr
 ·cases hr
  obtain ⟨v,w',m',h1,h2,h3,h4⟩:=hq _ _ rfl
  exact ⟨_,v,w',S,m',by simp [h1],.inl rfl,SM.le_refl _,h2,h3,h4⟩
 ·cases hr
  obtain ⟨v,w',m',h1,h2,h3,h4⟩:=hq _ _ rfl
  exact ⟨_,v,w',S,m',by simp [h1],.inl rfl,SM.le_refl _,h2,h3,h4⟩
 ·cases hr
theorem zm4 (s:Sim n₀ w₀ S₀ S m h w) {b:Builtin}{ts:Array TypeId}{ty:TypeId}{cs:Array Bool}{args:List AV}{vs:Array Value}{r:R}(hr:zav P h b ts.toList args=some r) (hv:VRs S m args vs.toList) :
  Fits P n₀ w₀ S₀ S m h w ((builtin b ts ty cs vs).run P w) r:=by
 unfold zav at hr
 split at hr
 ·rename_i t x hts
  obtain ⟨vs⟩:=vs
  unfold VRs at hv
  obtain ⟨v,vs',e,hx,hv⟩:=hv
  unfold VRs at hv
  simp only at e hv;subst hv;subst e
  have ht0:ts=#[t]:=by cases ts;simp at hts;simp [hts]
  subst ht0
  split at hr
  ·rename_i ht
   split at hr
   ·cases hr
    unfold VR at hx;subst hx
    refine Fits.of_run s (q:=Builtin.len_ #[t] ty _) ⟨_,?_,znb _ _⟩
    simp [Builtin.len_,zab ht,goInt,zfr]
   ·cases hr
  ·rename_i n e ht
   cases hr
   refine Fits.of_run s (q:=Builtin.len_ #[t] ty _) ⟨_,?_,znb _ _⟩
   simp [Builtin.len_,zab ht,goInt]
  ·rename_i e ht
   split at hr
   ·cases hr
    unfold VR at hx;obtain ⟨a,cap,rfl,_⟩:=hx
    refine Fits.of_run s (q:=Builtin.len_ #[t] ty _) ⟨_,?_,znb _ _⟩
    simp [Builtin.len_,zab ht,goInt]
   ·cases hr
    unfold VR at hx;obtain ⟨B,K,cap,_,rfl,_⟩:=hx
    refine Fits.of_run s (q:=Builtin.len_ #[t] ty _) ⟨_,?_,znb _ _⟩
    simp [Builtin.len_,zab ht,goInt]
   ·cases hr
  ·cases hr
 ·rename_i t u x y hts
  obtain ⟨vs⟩:=vs
  unfold VRs at hv
  obtain ⟨v,vs',e,hx,hv⟩:=hv
  unfold VRs at hv
  obtain ⟨v',vs'',e',hy,hv⟩:=hv
  unfold VRs at hv
  simp only at e e' hv;subst hv;subst e';subst e
  have ht0:ts=#[t,u]:=by cases ts;simp at hts;simp [hts]
  subst ht0
  split at hr
  ·cases hr
  ·rename_i e du hnot ht hu
   refine Fits.ofRes hr (q:=Builtin.append_ #[t,u] ty _) fun x' oh ho=>zpa s ht (by simpa using hu) (fun k hk=>hnot k hk) ho hx hy
  ·cases hr
 ·rename_i t ts' x y hts
  obtain ⟨vs⟩:=vs
  unfold VRs at hv
  obtain ⟨v,vs',e,hx,hv⟩:=hv
  unfold VRs at hv
  obtain ⟨v',vs'',e',hy,hv⟩:=hv
  unfold VRs at hv
  simp only at e e' hv;subst hv;subst e';subst e
  split at hr
  ·rename_i e ht
   have ht0:ts[0]?=some t:=by cases ts;simp at hts;simp [hts]
   refine Fits.ofRes hr (q:=Builtin.copy_ ts ty _) fun x' oh ho=>ztw s ht0 ht ho hx hy
  ·cases hr
 ·cases hr
theorem binEq {n:Nat}{t:TypeId}{a b:AV}{r:Bool}{u v:Value}(hni:∀ k n k' n',a=.int k n → b=.int k' n' → False) (hns:∀ s s',a=.str s → b=.str s' → False)
  (he:eqA P (n+1) t a b=some r) (hn:n+1 ≤ 10000) (va:VR S m a u) (vb:VR S m b v):(binOp .eql t u v).run P w=.ok (.bool r) w ∧ (binOp .neq t u v).run P w=.ok (.bool (!r)) w:=by
 have hq:=zr4 (P:=P) (w:=w) (n+1) hn he va vb
 unfold eqA at he
 split at he
 ·cases he
 ·split at he
  ·unfold VR at va vb;subst va vb;simp [binOp,Op.equal,Op.maxDepth,hq]
  ·exact (hni _ _ _ _ rfl rfl).elim
  ·exact (hns _ _ rfl rfl).elim
  ·unfold VR at va vb;subst va vb;simp [binOp,Op.equal,Op.maxDepth,hq]
  ·unfold VR at va vb;subst va;obtain ⟨_,_,_,rfl⟩:=vb;simp [binOp,Op.equal,Op.maxDepth,hq]
  ·unfold VR at va vb;subst vb;obtain ⟨_,_,_,rfl⟩:=va;simp [binOp,Op.equal,Op.maxDepth,hq]
  ·unfold VR at va vb;obtain ⟨_,_,_,rfl⟩:=va;obtain ⟨_,_,_,rfl⟩:=vb;simp [binOp,Op.equal,Op.maxDepth,hq]
  ·unfold VR at va vb;subst va vb;simp [binOp,Op.equal,Op.maxDepth,hq]
  ·unfold VR at va vb;subst va;obtain ⟨_,rfl,_⟩:=vb;simp [binOp,Op.equal,Op.maxDepth,hq]
  ·unfold VR at va vb;subst vb;obtain ⟨_,rfl,_⟩:=va;simp [binOp,Op.equal,Op.maxDepth,hq]
  ·unfold VR at va vb;obtain ⟨_,_,rfl,_⟩:=va;obtain ⟨_,_,rfl,_⟩:=vb;simp only [List.length_cons,List.length_nil] at hq;simp [binOp,Op.equal,Op.maxDepth,hq]
  ·unfold VR at va vb;obtain ⟨_,_,rfl,_⟩:=va;obtain ⟨_,_,rfl,_⟩:=vb;simp only [List.length_cons,List.length_nil] at hq;simp [binOp,Op.equal,Op.maxDepth,hq]
  ·unfold VR at va vb;obtain ⟨_,_,_,_,rfl,_⟩:=va;obtain ⟨_,_,rfl,_⟩:=vb;simp only [List.length_cons,List.length_nil] at hq;simp [binOp,Op.equal,Op.maxDepth,hq]
  ·unfold VR at va vb;obtain ⟨_,rfl,_⟩:=va;obtain ⟨_,rfl,_⟩:=vb;simp [binOp,Op.equal,Op.maxDepth,hq]
  ·unfold VR at va vb;obtain ⟨_,rfl,_⟩:=va;obtain ⟨_,rfl,_⟩:=vb;simp [binOp,Op.equal,Op.maxDepth,hq]
  ·cases he
theorem zqe {g:FuncId}(hok:fnOk P g=true):g<P.funcs.size:=by
 unfold fnOk at hok
 split at hok
 ·rename_i fn hfn;exact (Array.getElem?_eq_some_iff.1 hfn).1
 ·cases hok
theorem zln {g:FuncId}(hok:fnOk P g=true) (vs:Array Value):(callFunc g vs).run P w=.ok (.enter g vs) w:=by
 unfold fnOk at hok
 split at hok
 ·rename_i fn hfn
  simp only [Bool.and_eq_true,Bool.not_eq_true',beq_eq_false_iff_ne,ne_eq] at hok
  obtain ⟨k1,k2⟩:=hok
  have k3:fn.body.isNone=false:=by cases hbd:fn.body<;>simp [hbd] at k2 ⊢
  simp [callFunc,hfn,k1]
  intro hbn;simp [hbn] at k2
 ·cases hok
theorem zd8 (s:Sim n₀ w₀ S₀ S m h w) {ρ:Operand → Option AV}{σ:Operand → Value}(hρ:∀ x v,ρ x=some v → VR S m v (σ x)) {o:Oper}{r:R}(hr:exOp P ρ h o=some r) :
  Fits P n₀ w₀ S₀ S m h w ((execOp σ o).run P w) r:=by
 have opt1:∀ {x:Operand}{f:AV → R},(ρ x).map f=some r → ∃ v,ρ x=some v ∧ r=f v:=fun {x f} e=>by
  cases hx:ρ x with
  | none=>simp [hx] at e
  | some v=>simp [hx] at e;exact ⟨v,rfl,e.symm⟩
 have optv:∀ {q:Option AV}{f:AV → R},q.map f=some r → ∃ v,q=some v ∧ r=f v:=fun {q f} e=>by
  cases hx:q with
  | none=>simp [hx] at e
  | some v=>simp [hx] at e;exact ⟨v,rfl,e.symm⟩
 cases hop:o.op<;>simp only [exOp,hop] at hr
 case move x=>obtain ⟨v,h1,rfl⟩:=opt1 hr;exact .same s (by simp [execOp,hop]) (hρ _ _ h1)
 case assign x=>obtain ⟨v,h1,rfl⟩:=opt1 hr;exact .same s (by simp [execOp,hop]) (hρ _ _ h1)
 case pick c a b =>
  split at hr
  ·rename_i t x y h1 h2 h3
   cases hr
   have hc:=hρ _ _ h1
   unfold VR at hc
   refine .same s (v:=if t then σ a else σ b) (by simp [execOp,hop,hc,asBool]) ?_
   cases t
   ·exact hρ _ _ h3
   ·exact hρ _ _ h2
  ·cases hr
 case alloc e =>
  split at hr
  ·rename_i d hd
   cases hr
   obtain ⟨z,z1,z2⟩:=ze1 hd w
   have hz:=z2 S m
   obtain ⟨k1,k2⟩:=s.alloc z.cells e (0,0) d.zero (el':=some e) (fun _ he=>by cases he;exact ⟨rfl,.inl rfl⟩) (by
    rw [List.take_of_length_le (by rw [hz.length];exact Nat.le_refl _)];exact hz) (by simp)
   refine ⟨_,.pointer (some ⟨w.heap.size,0,none⟩),_,S,_,?_,.inl rfl,SM.le_refl _,k1,?_,k2⟩
   ·simp [execOp,hop,Instr.alloc,z1,newVar,newRow]
   ·unfold VR;exact ⟨_,_,BM.put_eq _ _ _ _,rfl⟩
  ·cases hr
 case box e x =>
  split at hr
  ·rename_i v hv
   split at hr
   ·rename_i cs hc
    cases hr
    obtain ⟨g1,g2⟩:=zgl hc (hρ _ _ hv)
    obtain ⟨k1,k2⟩:=s.alloc (σ x).cells e (0,0) cs (el':=some e) (fun _ he=>by cases he;exact ⟨rfl,.inl rfl⟩) (by
     rw [List.take_of_length_le (by rw [g1.length];exact Nat.le_refl _)];exact g1) (by simp)
    refine ⟨_,.pointer (some ⟨w.heap.size,0,none⟩),_,S,_,?_,.inl rfl,SM.le_refl _,k1,?_,k2⟩
    ·simp [execOp,hop,Instr.box,newVar,newRow]
    ·unfold VR;exact ⟨_,_,BM.put_eq _ _ _ _,rfl⟩
   ·cases hr
  ·cases hr
 case build t ps =>
  split at hr
  ·rename_i d l hd hl
   obtain ⟨p1,p2⟩:=ze6 hρ hl
   obtain ⟨z,z1,z2⟩:=ze1 hd w
   have hu:=(zdg hd).1
   split at hr
   ·rename_i fs hfs
    rw [hfs] at hu
    split at hr
    ·rename_i pl hpl
     cases hf:zjt (pl[·]?) d.zero l with
     | none=>simp [hf] at hr
     | some cs =>
      simp [hf] at hr;subst hr
      obtain ⟨vs',f1,f2,f3⟩:=zf1 (S:=S) (m:=m) hf (z2 S m) ⟨p1,p2⟩
      have hp:=zh2 (P:=P) hpl w
      have hp':(fs.mapM (fun (f:Field)=>do pure (f.offset,← sizeOf f.type))).run P w=.ok pl.toArray w:=by
       rw [Array.mapM_eq_mapM_toList]
       simp only [Sem.run_map,hp,Result.andThen_ok]
      refine Fits.same s (v:=.agg vs') ?_ (z00 f2)
      simp only [execOp,hop,Instr.build,Sem.run_bind,z1,Result.andThen_ok,zab hu,hp']
      have hpl':((pl.toArray)[·]?:Nat → Option (Nat × Nat))=(pl[·]?):=by funext i;simp
      simp only [hpl']
      have hps:(ps.map fun (p:Nat × Operand)=>(p.1,σ p.2)).toList=ps.toList.map fun p=>(p.1,σ p.2):=by simp
      have f1':Instr.fill (pl[·]?) z.cells (ps.map fun (x:Nat × Operand)=>(x.1,σ x.2)).toList=some vs':=by rw [hps];exact f1
      rw [show (ps.map fun (x:Nat × Operand)=>match x with | (i,x)=>(i,σ x))=ps.map fun (x:Nat × Operand)=>(x.1,σ x.2) from rfl]
      simp only [f1']
      simp
    ·cases hr
   ·rename_i n e he
    rw [he] at hu
    split at hr
    ·rename_i de hde
     cases hf:zjt (fun i=>some (i*de.size,de.size)) d.zero l with
     | none=>simp [hf] at hr
     | some cs =>
      simp [hf] at hr;subst hr
      obtain ⟨vs',f1,f2,f3⟩:=zf1 (S:=S) (m:=m) hf (z2 S m) ⟨p1,p2⟩
      refine Fits.same s (v:=.agg vs') ?_ (z00 f2)
      have hps:(ps.map fun (p:Nat × Operand)=>(p.1,σ p.2)).toList=ps.toList.map fun p=>(p.1,σ p.2):=by simp
      have f1':Instr.fill (fun i=>some (i*de.size,de.size)) z.cells (ps.map fun (x:Nat × Operand)=>(x.1,σ x.2)).toList=some vs':=by rw [hps];exact f1
      simp only [execOp,hop,Instr.build,Sem.run_bind,z1,Result.andThen_ok,zab hu,zao hde]
      rw [show (ps.map fun (x:Nat × Operand)=>match x with | (i,x)=>(i,σ x))=ps.map fun (x:Nat × Operand)=>(x.1,σ x.2) from rfl]
      simp only [f1']
      simp
    ·cases hr
   ·cases hr
  ·cases hr
 case buildSlice t n ps =>
  split at hr
  ·rename_i e l ht hl
   obtain ⟨p1,p2⟩:=ze6 hρ hl
   split at hr
   ·rename_i d hd
    split at hr
    ·cases hr
    ·rename_i hcond
     obtain ⟨z,z1,z2⟩:=ze1 hd w
     have hz:=z2 S m
     have hzl:=hz.length
     simp at hzl
     have hdz:d.zero.length=d.size:=by omega
     have hd0:d.size≠0:=by omega
     split at hr
     ·rename_i cs hf
      split at hr
      case isFalse=>cases hr
      rename_i hsc
      obtain ⟨hsc,hag⟩:=hsc
      cases hr
      have hrep:=znw hz (by omega) n
      have hrep':VRs S m (rep n d.zero) (((Array.range (n*d.size)).map fun i=>z.cells[i % z.cells.size]!)).toList:=by rw [← hdz,hzl];exact hrep
      obtain ⟨vs',f1,f2,f3⟩:=zf1 (S:=S) (m:=m) hf hrep' ⟨p1,p2⟩
      have hps:(ps.map fun (p:Nat × Operand)=>(p.1,σ p.2)).toList=ps.toList.map fun p=>(p.1,σ p.2):=by simp
      have f1':Instr.fill (fun i=>some (i*d.size,d.size)) ((Array.range (n*d.size)).map fun i=>z.cells[i % z.cells.size]!) (ps.map fun (x:Nat × Operand)=>(x.1,σ x.2)).toList=some vs':=by rw [hps];exact f1
      obtain ⟨k1,k2⟩:=s.fresh vs' e
      have hlen:cs.length=n*d.size:=by
       have:=f2.length;simp [f3] at this;omega
      have hcr:CR (S.fresh w.heap.size vs') m cs w.heap.size 0:=CR.of_get _ _ _ fun i x hx=>by
       obtain ⟨v,g1,g2⟩:=f2.get _ i x hx
       exact ⟨v,by rw [SM.fresh_eq,Nat.zero_add];simpa using g1,g2.mono k1 (BM.le_refl _)⟩
      refine ⟨_,.slice (some ⟨w.heap.size,0,none⟩) n n,_,_,m,?_,.inl rfl,k1,BM.le_refl _,?_,k2⟩
      ·have hsz:¬ n*d.size > 2 ^ 24:=by
        have:(2:Nat) ^ 24=16777216:=by decide
        omega
       have hmap:(ps.map fun (x:Nat × Operand)=>match x with | (i,x)=>(i,σ x))=ps.map fun (x:Nat × Operand)=>(x.1,σ x.2):=rfl
       by_cases hn:n*d.size=0
       ·have hn0:n=0:=by
         rcases Nat.mul_eq_zero.1 hn with h | h
         ·exact h
         ·omega
        subst hn0
        have f1'':Instr.fill (fun i=>some (i*d.size,d.size)) #[] (ps.map fun (x:Nat × Operand)=>(x.1,σ x.2)).toList=some vs':=by
         have e0:((Array.range (0*d.size)).map fun i=>z.cells[i % z.cells.size]!)=#[]:=by rw [Nat.zero_mul];simp
         rw [← e0];exact f1'
        have er:∀ f:Nat → Value,Array.map f (Array.range 0)=#[]:=fun f=>by simp
        simp only [execOp,hop,Instr.buildSlice,Sem.run_bind,zab ht,Result.andThen_ok,zao hd,Sem.run_ite,hsz,if_false,Nat.zero_mul,if_true,Sem.run_pure,hmap]
        simp only [er,f1'']
        simp [newRow]
       ·simp only [execOp,hop,Instr.buildSlice,Sem.run_bind,zab ht,Result.andThen_ok,zao hd,Sem.run_ite,hsz,if_false,hn,Sem.run_pure,z1,hmap,f1']
        simp [newRow]
      ·have hel:(zf9 d n cs).length=n:=by
        unfold zf9
        cases hg:za9 d.desc with
        | true =>
         simp only [hg,if_true,List.length_map]
         have:∀ n (l:List AV),(zj0 d.size n l).length=n:=fun n=>by
          induction n with
          | zero=>intro l;rfl
          | succ n ih=>intro l;simp [zj0,ih]
         exact this n cs
        | false =>
         simp only [hg,Bool.false_eq_true,if_false]
         rcases hag with h | h
         ·rw [hg] at h;cases h
         ·rw [hlen,h];omega
       unfold VR
       refine ⟨some ⟨w.heap.size,0,none⟩,n,by rw [hel],by rw [hel];exact Nat.le_refl _,fun _=>⟨hel.symm,fun h0=>absurd h0 hd0⟩,fun _=>⟨w.heap.size,0,rfl,?_⟩⟩
       refine ER.of_cells rfl n hcr hlen hsc fun h=>?_
       rcases hag with h' | h'
       ·rw [h] at h';cases h'
       ·exact h'
     ·cases hr
   ·cases hr
  ·cases hr
 case load t p =>
  split at hr
  ·rename_i a ha
   obtain ⟨x,h1,rfl⟩:=optv hr
   obtain ⟨v,g1,g2⟩:=zlf (P:=P) s h1 (hρ _ _ ha)
   exact .same s (by simp [execOp,hop,g1]) g2
  ·cases hr
 case store t p x =>
  split at hr
  ·rename_i a v ha hv
   cases hs:znh P h t a v with
   | none=>simp [hs] at hr
   | some h' =>
    simp [hs] at hr;subst hr
    obtain ⟨w',m',g1,g2,g3⟩:=zpl (P:=P) s hs (hρ _ _ ha) (hρ _ _ hv)
    exact ⟨_,Go.undef,w',S,m',by simp [execOp,hop,g1],.inr ⟨rfl,rfl⟩,SM.le_refl _,g2,by unfold VR;trivial,g3⟩
  ·cases hr
 case nilCheck x =>
  split at hr
  ·rename_i b v o hx
   cases hr
   have:=hρ _ _ hx
   have h0:=this
   unfold VR at h0
   obtain ⟨B,K,_,e⟩:=h0
   exact .same s (v:=σ x) (by simp [execOp,hop,e]) this
  ·rename_i cs o hx
   cases hr
   have:=hρ _ _ hx
   have h0:=this
   unfold VR at h0
   obtain ⟨B,q,e,_⟩:=h0
   exact .same s (v:=σ x) (by simp [execOp,hop,e]) this
  ·rename_i g y z hx
   cases hr
   have:=hρ _ _ hx
   have h0:=this
   unfold VR at h0
   obtain ⟨y',z',⟨f',e,hf'⟩,_⟩:=h0
   have hf'':=(zb5 rfl).1 hf';subst hf''
   exact .same s (v:=σ x) (by simp [execOp,hop,e]) this
  ·rename_i t v hx
   cases hr
   have:=hρ _ _ hx
   have h0:=this
   unfold VR at h0
   obtain ⟨u,e,_⟩:=h0
   exact .same s (v:=σ x) (by simp [execOp,hop,e]) this
  ·cases hr
 case binOp op t x y yt =>
  split at hr
  ·rename_i a b ha hb
   have va:=hρ _ _ ha
   have vb:=hρ _ _ hb
   split at hr
   ·rename_i k n k' n'
    obtain ⟨r',h1,rfl⟩:=optv hr
    obtain ⟨v,g1,g2⟩:=zo8 (P:=P) (t:=t) s h1 va vb
    refine .same s ?_ g2
    have hg:(eqGuard op t x y (σ x) (σ y)).run P w=.ok () w:=zgh (p:=.int k n) (q:=.int k' n') rfl va vb
    simp [execOp,hop,hg,g1]
   ·rename_i l l'
    obtain ⟨r',h1,rfl⟩:=optv hr
    obtain ⟨v,g1,g2⟩:=zo8 (P:=P) (t:=t) s h1 va vb
    refine .same s ?_ g2
    have hg:(eqGuard op t x y (σ x) (σ y)).run P w=.ok () w:=zgh (p:=.str l) (q:=.str l') rfl va vb
    simp [execOp,hop,hg,g1]
   ·rename_i hni hns
    split at hr
    ·rename_i hgd
     have hg:(eqGuard op t x y (σ x) (σ y)).run P w=.ok () w:=zgh hgd va vb
     have hbin:∀ r',eqA P 20 t a b=some r' → (binOp .eql t (σ x) (σ y)).run P w=.ok (.bool r') w ∧ (binOp .neq t (σ x) (σ y)).run P w=.ok (.bool (!r')) w:=fun r' he=>binEq (n:=19) hni hns he (by omega) va vb
     split at hr
     ·cases he:eqA P 20 t a b with
      | none=>simp [he] at hr
      | some r' =>
       simp [he] at hr;subst hr
       exact .same s (by simp [execOp,hop,hg,(hbin r' he).1]) (zul _)
     ·cases he:eqA P 20 t a b with
      | none=>simp [he] at hr
      | some r' =>
       simp [he] at hr;subst hr
       exact .same s (by simp [execOp,hop,hg,(hbin r' he).2]) (zul _)
     ·cases hr
    ·cases hr
  ·cases hr
 case unOp op t x =>
  split at hr
  ·rename_i a ha
   obtain ⟨r',h1,rfl⟩:=optv hr
   obtain ⟨v,g1,g2⟩:=zyj (P:=P) s h1 (hρ _ _ ha)
   exact .same s (by simp [execOp,hop,g1]) g2
  ·cases hr
 case convert sr ds x =>
  split at hr
  ·rename_i a ha
   split at hr
   ·rename_i v hv
    cases hr
    obtain ⟨u,g1,g2⟩:=zqm (P:=P) s hv (hρ _ _ ha)
    exact .same s (v:=u) (by simp [execOp,hop,g1]) g2
   ·have:=Fits.ofRes (q:=convert sr ds (σ x)) hr fun x' oh ho=>ztx s ho (hρ _ _ ha)
    simpa [execOp,hop] using this
  ·cases hr
 case makeInterface t x =>
  split at hr
  ·cases hr
  ·rename_i d v hni ht hv
   cases hr
   refine .same s (v:=.iface t (σ x)) ?_ (by unfold VR;exact ⟨_,rfl,hρ _ _ hv⟩)
   simp only [execOp,hop,Instr.makeInterface,Sem.run_bind,zab ht,Result.andThen_ok]
   cases d<;>first | rfl | exact (hni _ rfl).elim
  ·cases hr
 case makeFunc f xs ys =>
  split at hr
  ·rename_i a b ha hb
   split at hr
   ·cases hr
   rename_i hy
   cases hr
   have h1:=zd1 hρ ha
   have h2:=zd1 hρ hb
   refine .same s (v:=.func f (xs.map σ) (ys.map σ)) (by simp [execOp,hop,Instr.makeFunc]) ?_
   unfold VR
   exact ⟨_,_,⟨f,rfl,(zb5 (by simpa using hy)).2 rfl⟩,by simpa using h1,by simpa using h2⟩
  ·cases hr
 case extract x i =>
  split at hr
  ·rename_i vs hx
   obtain ⟨r',h1,rfl⟩:=optv hr
   have h0:=hρ _ _ hx
   unfold VR at h0
   obtain ⟨us,e,hv⟩:=h0
   obtain ⟨v,g1,g2⟩:=hv.get _ _ _ h1
   have g1':us[i]?=some v:=by simpa using g1
   exact .same s (by simp [execOp,hop,e,Instr.extract,g1']) g2
  ·cases hr
 case makeSlice t l c =>
  split at hr
  ·rename_i e k a k' b ht hl hc
   split at hr
   ·rename_i d hd
    split at hr
    ·rename_i hcond
     obtain ⟨c1,c2,c3,c4,c5,c6⟩:=hcond
     cases hr
     have vl:=hρ _ _ hl
     have vc:=hρ _ _ hc
     unfold VR at vl vc
     obtain ⟨ts1,i,z,ts2,ts3,ts4,ts5,ts6⟩:=zdg hd
     obtain ⟨z',z1,z2⟩:=ze1 hd w
     have hz:=z2 S m
     have hzl:=hz.length
     simp at hzl
     have hw:∀ x:Int,0 ≤ x → x ≤ 1073741824 → IntKind.i64.wrap x=x:=fun x h0 h1=>by
      have e0:x % (2 ^ IntKind.i64.bits:Int)=x:=Int.emod_eq_of_lt h0 (by simp [IntKind.bits];omega)
      have e1:¬ (x≥(2 ^ (IntKind.i64.bits-1):Int)):=by simp [IntKind.bits];omega
      unfold IntKind.wrap
      simp only [e0]
      rw [if_neg (by simp [IntKind.bits,IntKind.signed];omega)]
     have hbig:¬ ((i.bytes:Int)*b > 2 ^ 48):=by
      have h1:(i.bytes:Int)*b ≤ 65536*1073741824:=by
       refine Int.mul_le_mul (by omega) (by omega) (by omega) (by omega)
      have:(2:Int) ^ 48=281474976710656:=by decide
      omega
     have hrep:=znw hz (by omega) a.toNat
     have hrow:VRs S m (rep a.toNat d.zero) (((Array.range (b.toNat*d.size)).map fun i=>z'.cells[i % z'.cells.size]!).toList.take (rep a.toNat d.zero).length):=by
      have e1:(rep a.toNat d.zero).length=a.toNat*z'.cells.size:=by
       have:=hrep.length;simpa using this
      have e2:((Array.range (b.toNat*d.size)).map fun i=>z'.cells[i % z'.cells.size]!).toList.take (rep a.toNat d.zero).length=((Array.range (a.toNat*z'.cells.size)).map fun i=>z'.cells[i % z'.cells.size]!).toList:=by
       rw [e1]
       have hle:a.toNat*z'.cells.size ≤ b.toNat*d.size:=by rw [← c5,hzl];exact Nat.mul_le_mul_right _ (by omega)
       simp only [Array.toList_map,Array.toList_range,← List.map_take,List.take_range,Nat.min_eq_left hle]
      rw [e2];exact hrep
     obtain ⟨k1,k2⟩:=s.alloc ((Array.range (b.toNat*d.size)).map fun i=>z'.cells[i % z'.cells.size]!) e (0,0) (rep a.toNat d.zero) (el':=some e) (fun _ he=>by cases he;exact ⟨rfl,.inl rfl⟩) hrow (by simp)
     refine ⟨_,.slice (some ⟨w.heap.size,0,none⟩) a.toNat b.toNat,_,S,_,?_,.inl rfl,SM.le_refl _,k1,?_,k2⟩
     ·simp only [execOp,hop,Instr.makeSlice,Sem.run_bind,zab ht,Result.andThen_ok,vl,vc,asInt,asIntOf,Sem.run_pure,zgx ts2,hw a c1 (by omega),hw b (by omega) c3]
      have hb0:¬ b<0:=by omega
      have ha0:¬ a<0:=by omega
      have hab:¬ b<a:=by omega
      have hbig':¬ ((281474976710656:Int)<(i.bytes:Int)*b):=by
       have:(2:Int) ^ 48=281474976710656:=by decide
       omega
      simp [hb0,ha0,hab,hbig',zao hd]
      by_cases hn:b.toNat*d.size=0
      ·have er:∀ f:Nat → Value,Array.map f (Array.range 0)=#[]:=fun f=>by simp
       rw [if_pos hn]
       simp only [hn,er]
       simp [newRow]
      ·rw [if_neg hn]
       simp [z1,newRow]
     ·unfold VR
      exact ⟨_,_,b.toNat,BM.put_eq _ _ _ _,rfl,by omega,by simp⟩
    ·cases hr
   ·cases hr
  ·cases hr
 case slice t x lo hi mx =>
  split at hr
  ·rename_i v l h' mm d hx hlo hhi hmx ht
   have vx:=hρ _ _ hx
   have o1:=zhp hρ hlo
   have o2:=zhp hρ hhi
   have o3:=zhp hρ hmx
   have fin:∀ {r':AV},(∃ u,(Instr.sliceAt t (σ x) (lo.map σ) (hi.map σ) (mx.map σ)).run P w=.ok u w ∧ VR S m r' u) → Fits P n₀ w₀ S₀ S m h w ((execOp σ o).run P w) (.val r'):=fun ⟨u,g1,g2⟩=>.same s (by simp [execOp,hop,g1]) g2
   split at hr
   ·rename_i l'
    obtain ⟨r',h1,rfl⟩:=optv hr
    exact fin (zu1 ht o1 o2 o3 h1 vx)
   ·rename_i e v' hns
    split at hr
    ·rename_i de sz xs c0 hde
     obtain ⟨r',h1,rfl⟩:=optv hr
     exact fin (zu2 ht hde o1 o2 o3 h1 vx)
    ·rename_i de sz b ver o' len hde
     obtain ⟨r',h1,rfl⟩:=optv hr
     exact fin (zyz ht hde o1 o2 o3 h1 vx)
    ·cases hr
   ·rename_i n e b ver o'
    split at hr
    ·rename_i de hde
     split at hr
     ·rename_i ver' cs frz hb
      split at hr
      ·rename_i hcond
       obtain ⟨rfl,c1,c2⟩:=hcond
       obtain ⟨r',h1,rfl⟩:=optv hr
       refine fin ?_
       obtain ⟨B,K,el₀,vs,fz,e1,e2,e3,e4,e5,e6,e7⟩:=zh9 s hb
       have h0:=vx
       unfold VR at h0
       obtain ⟨B',K',g1,e⟩:=h0
       rw [e1] at g1;cases g1
       unfold zbm at h1
       simp only at h1
       have key:∀ (lo' hi':Int) (M:Int),l.getD 0=lo' → h'.getD n=hi' → mm.getD n=M → (mm.isSome=true → h'.isSome=true) → 0 ≤ lo' → lo' ≤ hi' → hi' ≤ M → M ≤ n →
         (Instr.sliceAt t (σ x) (lo.map σ) (hi.map σ) (mx.map σ)).run P w=.ok (.slice (some (if M.toNat=lo'.toNat then ⟨B,o',none⟩ else ⟨B,o'+lo'.toNat*de.size,none⟩)) (hi'.toNat-lo'.toNat) (M.toNat-lo'.toNat)) w:=by
        intro lo' hi' M a1 a2 a3 a4 a5 a6 a7 a8
        subst a1 a2 a3
        have hbo:=zfn (P:=P) (w:=w) (is:=false) (len:=n) (cap:=n) o1 o2 o3 a4 a5 a6 a7 a8
        simp [Instr.sliceAt,zab ht,e,Instr.sureAddr,hbo,zao hde,zc0]
       have hmul:∀ (lo' M:Int),0 ≤ lo' → lo' ≤ M → M ≤ n → lo'.toNat*de.size+(M.toNat-lo'.toNat)*de.size ≤ n*de.size:=fun lo' M a1 a2 a3=>by
        rw [← Nat.add_mul];exact Nat.mul_le_mul_right _ (by omega)
       split at h1
       ·rename_i y
        split at h1
        ·rename_i hc
         obtain ⟨d0,d1,d2,d3,d4,_⟩:=hc
         have hk:=key _ _ y rfl rfl rfl (fun _=>d0) d1 d2 d3 d4
         have hm':=hmul (l.getD 0) y d1 (by omega) d4
         split at h1
         ·cases h1
          refine ⟨_,hk,?_⟩
          unfold VR
          have z1:(h'.getD n).toNat-(l.getD 0).toNat=0:=by omega
          have z2:y.toNat-(l.getD 0).toNat=0:=by omega
          rw [z1,z2]
          exact ⟨_,0,rfl,Nat.le_refl _,fun hs=>⟨rfl,fun h0=>by simp [h0] at hs⟩,fun hne=>absurd rfl hne⟩
         ·cases h1
          refine ⟨_,hk,?_⟩
          rw [if_neg (by omega)]
          unfold VR
          refine ⟨B,K,y.toNat-(l.getD 0).toNat,e1,?_,by omega,by omega⟩
          have:(h'.getD n).toNat-(l.getD 0).toNat=(h'.getD n-l.getD 0).toNat:=by omega
          rw [this]
        ·cases h1
       ·split at h1
        ·rename_i hc
         obtain ⟨d1,d2,d3,_⟩:=hc
         have hk:=key _ _ n rfl rfl rfl (fun h=>by cases h) d1 d2 d3 (by omega)
         have hm':=hmul (l.getD 0) n d1 (by omega) (by omega)
         split at h1
         ·cases h1
          refine ⟨_,hk,?_⟩
          unfold VR
          have z1:(h'.getD n).toNat-(l.getD 0).toNat=0:=by omega
          rw [z1]
          exact ⟨_,_,rfl,by simp,(fun h=>by cases h),fun hne=>absurd rfl hne⟩
         ·cases h1
          refine ⟨_,hk,?_⟩
          rw [if_neg (by omega)]
          unfold VR
          refine ⟨B,K,(n:Int).toNat-(l.getD 0).toNat,e1,?_,by omega,by omega⟩
          have:(h'.getD n).toNat-(l.getD 0).toNat=(h'.getD n-l.getD 0).toNat:=by omega
          rw [this]
        ·cases h1
      ·cases hr
     ·cases hr
    ·cases hr
   ·cases hr
  ·cases hr
 case fieldAddr t x i =>
  split at hr
  ·rename_i fs p ht hx
   split at hr
   ·rename_i f hf
    split at hr
    ·rename_i d hd
     split at hr
     ·cases hr
     ·rename_i hsz
      have vx:=hρ _ _ hx
      split at hr
      ·rename_i b ver o'
       cases hr
       have h0:=vx
       unfold VR at h0
       obtain ⟨B,K,g1,e⟩:=h0
       refine .same s (v:=.pointer (some ⟨B,o'+f.offset,none⟩)) ?_ (by unfold VR;exact ⟨B,K,g1,rfl⟩)
       simp [execOp,hop,Instr.fieldAt,zab ht,hf,e,Instr.sureAddr,fieldPlace,zao hd,hsz,zc0]
      ·rename_i cs o'
       cases hr
       have h0:=vx
       unfold VR at h0
       obtain ⟨B,q,e,hc⟩:=h0
       refine .same s (v:=.pointer (some ⟨B,q+o'+f.offset,none⟩)) ?_ (by unfold VR;exact ⟨B,q,by rw [Nat.add_assoc],hc⟩)
       simp [execOp,hop,Instr.fieldAt,zab ht,hf,e,Instr.sureAddr,fieldPlace,zao hd,hsz,zc0]
      ·cases hr
    ·cases hr
   ·cases hr
  ·cases hr
 case field t x i =>
  split at hr
  ·rename_i fs cs ht hx
   split at hr
   ·rename_i f hf
    split at hr
    ·rename_i d hd
     obtain ⟨r',h1,rfl⟩:=optv hr
     have vx:=hρ _ _ hx
     unfold VR at vx
     obtain ⟨vs,e,hv⟩:=vx
     obtain ⟨v,g1,g2⟩:=zdd (P:=P) (w:=w) hd hv h1
     exact .same s (by simp [execOp,hop,Instr.field,zab ht,hf,e,asAgg,g1]) g2
    ·cases hr
   ·cases hr
  ·cases hr
 case indexAddr t x ix =>
  split at hr
  ·rename_i e v k i ht hx hix
   have vx:=hρ _ _ hx
   have vi:=hρ _ _ hix
   unfold VR at vi
   split at hr
   ·rename_i d hd
    split at hr
    ·rename_i sz xs c0
     split at hr
     ·rename_i hc
      obtain ⟨c1,rfl⟩:=hc
      split at hr
      ·rename_i y hy
       cases hcy:y.cells? with
       | none=>simp [hcy] at hr
       | some cs =>
        simp [hcy] at hr;subst hr
        unfold VR at vx
        obtain ⟨a,cap,e1,e2,e3,e4⟩:=vx
        have hlt:i.toNat<xs.length:=(List.getElem?_eq_some_iff.1 hy).1
        obtain ⟨B,q,rfl,he⟩:=e4 (fun hn=>by subst hn;simp at hlt)
        refine .same s (v:=.pointer (some ⟨B,q+i.toNat*d.size,none⟩)) ?_ (by unfold VR;exact ⟨B,q+i.toNat*d.size,rfl,he.get hy hcy⟩)
        have hi2:i<(xs.length:Int):=by omega
        simp [execOp,hop,Instr.indexAt,vi,asIntOf,zab ht,e1,c1,hi2,zao hd,zc0]
      ·cases hr
     ·cases hr
    ·rename_i sz b ver o' len
     split at hr
     ·rename_i hc
      obtain ⟨c1,c2,rfl⟩:=hc
      cases hr
      unfold VR at vx
      obtain ⟨B,K,cap,g1,e1,_⟩:=vx
      refine .same s (v:=.pointer (some ⟨B,o'+i.toNat*d.size,none⟩)) ?_ (by unfold VR;exact ⟨B,K,g1,rfl⟩)
      simp [execOp,hop,Instr.indexAt,vi,asIntOf,zab ht,e1,c1,c2,zao hd,zc0]
     ·cases hr
    ·cases hr
   ·cases hr
  ·rename_i n e p k i ht hx hix
   have vx:=hρ _ _ hx
   have vi:=hρ _ _ hix
   unfold VR at vi
   split at hr
   ·rename_i d hd
    split at hr
    ·rename_i hc
     obtain ⟨c1,c2⟩:=hc
     split at hr
     ·rename_i b ver o'
      cases hr
      unfold VR at vx
      obtain ⟨B,K,g1,e1⟩:=vx
      refine .same s (v:=.pointer (some ⟨B,o'+i.toNat*d.size,none⟩)) ?_ (by unfold VR;exact ⟨B,K,g1,rfl⟩)
      simp [execOp,hop,Instr.indexAt,vi,asIntOf,zab ht,e1,c1,c2,zao hd,zc0,Instr.sureAddr]
     ·rename_i cs o'
      cases hr
      unfold VR at vx
      obtain ⟨B,q,e1,hcr⟩:=vx
      refine .same s (v:=.pointer (some ⟨B,q+o'+i.toNat*d.size,none⟩)) ?_ (by unfold VR;exact ⟨B,q,by rw [Nat.add_assoc],hcr⟩)
      simp [execOp,hop,Instr.indexAt,vi,asIntOf,zab ht,e1,c1,c2,zao hd,zc0,Instr.sureAddr]
     ·cases hr
    ·cases hr
   ·cases hr
  ·cases hr
 case index t x ix =>
  split at hr
  ·rename_i l k i ht hx hix
   have vx:=hρ _ _ hx
   have vi:=hρ _ _ hix
   unfold VR at vi vx
   split at hr
   ·rename_i c1
    split at hr
    ·rename_i b hb
     cases hr
     refine .same s (v:=.int .u8 b.toNat) ?_ (znb _ _)
     have hb':(⟨l.toArray⟩ : ByteArray)[i.toNat]?=some b:=by
      have hlt:i.toNat<l.length:=(List.getElem?_eq_some_iff.1 hb).1
      rw [getElem?_pos _ _ (by simpa [zfr] using hlt)]
      have:=(List.getElem?_eq_some_iff.1 hb).2
      congr 1
     simp [execOp,hop,Instr.index,vi,vx,asIntOf,zab ht,c1,hb']
    ·cases hr
   ·cases hr
  ·rename_i n e cs k i ht hx hix
   have vx:=hρ _ _ hx
   have vi:=hρ _ _ hix
   unfold VR at vi vx
   obtain ⟨vs,e1,hv⟩:=vx
   split at hr
   ·rename_i hc
    obtain ⟨c1,c2⟩:=hc
    split at hr
    ·rename_i d hd
     obtain ⟨r',h1,rfl⟩:=optv hr
     obtain ⟨v,g1,g2⟩:=zdd (P:=P) (w:=w) hd hv h1
     exact .same s (by simp [execOp,hop,Instr.index,vi,e1,asIntOf,zab ht,c1,c2,zao hd,g1]) g2
    ·cases hr
   ·cases hr
  ·cases hr
 case call c =>
  split at hr
  ·cases hr
  ·rename_i args ha
   have va:=zd1 hρ ha
   split at hr
   ·rename_i b hb
    simp only [execOp,hop,resolve,hb,Sem.run_bind,Sem.run_pure,Result.andThen_ok,invoke]
    split at hr
    ·rename_i r' hr'
     cases hr
     exact zm4 s hr' (by simpa using va)
    ·exact zou s hr (by simpa using va)
   ·rename_i f hf
    split at hr
    ·rename_i g x y hx
     split at hr
     ·rename_i hok
      cases hr
      have vx:=hρ _ _ hx
      unfold VR at vx
      obtain ⟨x',y',⟨f',e,hf'⟩,h1,h2⟩:=vx
      have hf'':=(zb5 rfl).1 hf';subst hf''
      refine ⟨x'++c.args.map σ++y',.inl ⟨zqe hok,?_⟩,by simpa using (h1.append va).append h2⟩
      have hcf:(callFunc g (x'++c.args.map σ++y')).run P w=.ok (.enter g (x'++c.args.map σ++y')) w:=by
       unfold fnOk at hok
       split at hok
       ·rename_i fn hfn
        simp only [Bool.and_eq_true,Bool.not_eq_true',beq_eq_false_iff_ne,ne_eq] at hok
        obtain ⟨k1,k2⟩:=hok
        have k3:fn.body.isNone=false:=by cases hbd:fn.body<;>simp [hbd] at k2 ⊢
        simp [callFunc,hfn,k1]
        intro hbn;simp [hbn] at k2
       ·cases hok
      simp only [execOp,hop,resolve,hf,e,Deferred.ofValue,Sem.run_bind,Sem.run_pure,Result.andThen_ok,invoke,hcf]
     ·have vx:=hρ _ _ hx
      unfold VR at vx
      obtain ⟨x',y',⟨f',e,hf'⟩,h1,h2⟩:=vx
      have hf'':=(zb5 rfl).1 hf';subst hf''
      simp only [execOp,hop,resolve,hf,e,Deferred.ofValue,Sem.run_bind,Sem.run_pure,Result.andThen_ok,invoke]
      exact ztl s hr (by simpa using (h1.append va).append h2)
    ·rename_i b hx
     cases hr
     have vx:=hρ _ _ hx
     unfold VR at vx
     obtain ⟨x',y',⟨f',e,B,K,hB,rfl⟩,h1,h2⟩:=vx
     have ex:x'=#[]:=by cases x';unfold VRs at h1;simpa using h1
     have ey:y'=#[]:=by cases y';unfold VRs at h2;simpa using h2
     subst ex ey
     refine ⟨c.args.map σ,.inr ⟨b,B,K,rfl,hB,?_⟩,by simpa using va⟩
     simp only [execOp,hop,resolve,hf,e,Deferred.ofValue,Sem.run_bind,Sem.run_pure,Result.andThen_ok,invoke]
     simp
    ·cases hr
   ·rename_i x name hf
    split at hr
    ·rename_i t v hx
     split at hr
     ·rename_i g hg
      split at hr
      ·rename_i hok
       cases hr
       have vx:=hρ _ _ hx
       unfold VR at vx
       obtain ⟨u,e,hu⟩:=vx
       refine ⟨#[u]++c.args.map σ,.inl ⟨zqe hok,?_⟩,by simp only [Array.toList_append,List.cons_append,List.nil_append];unfold VRs;exact ⟨u,_,rfl,hu,by simpa using va⟩⟩
       have hcf:(callFunc g (#[u]++c.args.map σ)).run P w=.ok (.enter g (#[u]++c.args.map σ)) w:=zln hok _
       have hm:=zs6 (P:=P) (w:=w) hg u (P.types.size+Made.depth-1)
       rw [show P.types.size+Made.depth-1+1=P.types.size+Made.depth from by unfold Made.depth;omega] at hm
       have e1:(#[Value.iface t u]++c.args.map σ)[0]?=some (.iface t u):=by rw [Array.getElem?_append_left (by simp)];rfl
       have e2:(#[Value.iface t u]++c.args.map σ).extract 1 (#[Value.iface t u]++c.args.map σ).size=c.args.map σ:=by
        apply Array.ext'
        simp [List.take_of_length_le]
       simp only [execOp,hop,resolve,hf,e,Sem.run_bind,Sem.run_pure,Result.andThen_ok,invoke,e1,e2,callMethod,run_program,hm,hcf]
      ·cases hr
     ·cases hr
    ·cases hr
 case typeAssert x xt t ok =>
  split at hr
  ·rename_i v hx
   obtain ⟨r',h1,rfl⟩:=optv hr
   obtain ⟨u,g1,g2⟩:=zo9 (P:=P) (w:=w) (xt:=xt) h1 (hρ _ _ hx)
   exact .same s (v:=u) (by simp [execOp,hop,g1]) g2
  ·cases hr
 case sliceToArrayPointer t x =>
  split at hr
  ·rename_i n e sz b ver o len ht hx
   split at hr
   ·rename_i hle
    cases hr
    have hv:=hρ _ _ hx
    unfold VR at hv
    obtain ⟨B,K,cap,g1,g2,g3,g4⟩:=hv
    exact .same s (v:=.pointer (some ⟨B,o,none⟩)) (by simp [execOp,hop,Instr.arrayAt,zab ht,g2,Nat.not_lt.2 hle]) (by unfold VR;exact ⟨B,K,g1,rfl⟩)
   ·cases hr
  ·cases hr
 case makeMap t q =>
  split at hr
  ·rename_i ht
   cases hr
   obtain ⟨k1,k2⟩:=s.push (.map []) (.map #[] 0) 0 rfl ⟨w.heap.size,0,#[],0,BM.put_eq _ _ _ _,s.size,by simp,by unfold MR;rfl,s.none (Nat.le_refl _),fun v hv=>by
    rw [BM.put_ne' _ _ (by omega)]
    cases hx:m h.length v with
    | none=>rfl
    | some x=>exact absurd (s.lt _ _ _ hx) (Nat.lt_irrefl _)⟩
   refine ⟨_,.map (some w.heap.size),_,S,_,?_,.inl rfl,SM.le_refl _,k1,?_,k2⟩
   ·simp [execOp,hop,Instr.makeMap]
   ·unfold VR;exact ⟨_,_,BM.put_eq _ _ _ _,rfl⟩
  ·cases hr
 case lookup t x q ok =>
  split at hr
  ·rename_i a b ha hb
   obtain ⟨r',h1,rfl⟩:=optv hr
   obtain ⟨u,g1,g2⟩:=zp3 (P:=P) s h1 (hρ _ _ ha) (hρ _ _ hb)
   exact .same s (v:=u) (by simp [execOp,hop,g1]) g2
  ·cases hr
 case mapUpdate t x q v =>
  split at hr
  ·rename_i a b c ha hb hc
   cases hu:updA P h t a b c with
   | none=>rw [hu] at hr;cases hr
   | some h' =>
    rw [hu] at hr
    cases hr
    obtain ⟨w',g1,g2⟩:=zkx (P:=P) s hu (hρ _ _ ha) (hρ _ _ hb) (hρ _ _ hc)
    exact ⟨_,Go.undef,w',S,m,by simp [execOp,hop,g1],.inr ⟨rfl,rfl⟩,SM.le_refl _,BM.le_refl _,by unfold VR;trivial,g2⟩
  ·cases hr
 case insert t x q v =>
  split at hr
  ·rename_i a b c ha hb hc
   cases hu:updA P h t a b c with
   | none=>rw [hu] at hr;cases hr
   | some h' =>
    rw [hu] at hr
    cases hr
    obtain ⟨w',g1,g2⟩:=zkx (P:=P) s hu (hρ _ _ ha) (hρ _ _ hb) (hρ _ _ hc)
    exact ⟨_,Go.undef,w',S,m,by simp [execOp,hop,g1],.inr ⟨rfl,rfl⟩,SM.le_refl _,BM.le_refl _,by unfold VR;trivial,g2⟩
  ·cases hr
 all_goals cases hr
end
end Go.Abs
