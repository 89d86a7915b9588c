/- Texts put together: Hc, Hd, Kb, He, Kc, Eb, Ep, Eq, Ka, Ec, Vb, Rb5, Vc, Vd. -/
import Derived.Test.YtalaebjjleddaaaGreatFlt10
import Derived.Test.YtalaebjjleddaaaGreatFlt7
set_option linter.unusedVariables false
set_option linter.unusedSimpArgs false
namespace Go.Proofs
open Go Go.Abs
def Z512:List AV:=match c207 with
 | .seq (.ops (⟨_,_,.op (.alloc _ z)⟩::_)) _=>z
 | _=>[]
theorem zxv:Z512.length=512:=by kernel_rfl
theorem zzk {cs:List AV}{n:Nat}(h:cs.length=n):zkk true n cs 0=some (.agg cs):=by
 unfold zkk
 rw [if_pos rfl,if_pos (by omega),List.drop_zero,List.take_of_length_le (by omega)]
section
variable {n:Nat}{h:zaa}
set_option maxRecDepth 20000 in
theorem zlw (hn:1 ≤ n) (s:Str) (hl:s.length=512):C n 207 [.str s] h=some (.ret (.agg (s.map u8)),h):=by
 obtain ⟨m,rfl⟩:=pre1 n
 refine zak F207 rfl rfl rfl rfl ?_
 have d1:([AB.cells 0 (some 282) Z512 0,AB.cells 0 (some 282) Z512 0]:zaa)[1]?=some (.cells 0 (some 282) Z512 0):=rfl
 conv=>whnf
 refine ⟨_,_,_,d1,⟨by rw [zxv];decide,by decide⟩,?_⟩
 refine slI (v:=.sl 1 1 0 0 512) rfl ?_
 conv=>whnf
 have ec:cpyR [AB.cells 0 (some 282) Z512 0,AB.cells 0 (some 282) Z512 0] 1 (.sl 1 1 0 0 512) (.str s)=some (.int .i64 512,some [AB.cells 0 (some 282) Z512 0,AB.cells 0 (some 282) (s.map u8) 0]):=by
  unfold cpyR
  simp only [ziz,lenA,hl,Nat.min_self]
  have hf:zax [AB.cells 0 (some 282) Z512 0,AB.cells 0 (some 282) Z512 0] 1 512 (.str s)=some (s.map u8):=by
   have:=zjr [AB.cells 0 (some 282) Z512 0,AB.cells 0 (some 282) Z512 0] s
   rwa [hl] at this
  rw [hf]
  simp only
  rw [if_neg (by decide)]
  rw [d1]
  simp only
  rw [if_pos ⟨trivial,trivial,Nat.le_refl _,by rw [List.length_map,hl,zxv];decide,zec _⟩]
  have:putAt Z512 0 (s.map u8)=s.map u8:=by
   unfold putAt
   rw [List.take_zero,List.nil_append,List.drop_of_length_le (by rw [zxv,List.length_map,hl];decide),List.append_nil]
  rw [this];rfl
 refine ⟨_,ec,?_⟩
 conv=>whnf
 have e2:([AB.cells 0 (some 282) Z512 0,AB.cells 0 (some 282) (s.map u8) 0]:zaa)[1]?=some (.cells 0 (some 282) (s.map u8) 0):=rfl
 have e1:([AB.cells 0 (some 282) Z512 0,AB.cells 0 (some 282) (s.map u8) 0]:zaa)[0]?=some (.cells 0 (some 282) Z512 0):=rfl
 have hm:(s.map u8).length=512:=by rw [List.length_map];exact hl
 have hput:putAt Z512 0 (s.map u8)=s.map u8:=by
  unfold putAt
  rw [List.take_zero,List.nil_append,List.drop_of_length_le (by rw [zxv,hm];decide),List.append_nil]
 refine ldI e2 ?_
 refine zdp (zzk hm) ?_
 conv=>whnf
 refine stI (xs:=s.map u8) e1 (zen (zec _)) hm (by rw [hm,zxv];rfl) (by rfl) ?_
 refine ⟨rfl,[.agg (s.map u8)],?_,?_⟩
 ·have:=zbk (h:=([AB.cells 0 (some 282) Z512 0,AB.cells 0 (some 282) (s.map u8) 0]:zaa).set 0 (.cells 0 (some 282) (putAt Z512 0 (s.map u8)) 0)) (t:=282) (N:=512) (b:=0) (ver:=0) (el:=some 282) (cs:=s.map u8) (f:=0) (by kernel_rfl) hm (by rw [hput];rfl)
  show (match zbv Tryz.prog (([AB.cells 0 (some 282) Z512 0,AB.cells 0 (some 282) (s.map u8) 0]:zaa).set 0 (.cells 0 (some 282) (putAt Z512 0 (s.map u8)) 0)) 282 (.ptr 0 0 0) with | some v=>some [v] | none=>none)=_
  rw [this]
 ·exact zby (n:=63) (fun x hx=>by obtain ⟨c,_,rfl⟩:=List.mem_map.1 hx;exact zat) _
theorem z0h (a b:Str) (ha:a.length=512) (hb:b.length=512):eqA Tryz.prog 20 282 (.agg (a.map u8)) (.agg (b.map u8))=some (decide (a=b)):=by
 have e0:Tryz.prog.underlying 282=some (.array 512 5):=by kernel_rfl
 obtain ⟨d,e1,e2⟩ : ∃ d,ti Tryz.prog 5=some d ∧ (za9 d.desc=false ∧ d.size=1):=by
  have:(ti Tryz.prog 5).map (fun d=>(za9 d.desc,d.size))=some (false,1):=by kernel_rfl
  obtain ⟨d,h1,h2⟩:=Option.map_eq_some_iff.1 this
  simp only [Prod.mk.injEq] at h2
  exact ⟨d,h1,h2⟩
 unfold eqA
 simp only [e0,e1]
 unfold zn9
 rw [if_pos ⟨e2.1,e2.2,by rw [List.length_map,ha],by rw [List.length_map,hb]⟩]
 simp only
 have e2:∀ (x y:UInt8),eqA Tryz.prog 19 5 (.int .u8 x.toNat) (.int .u8 y.toNat)=some (((x.toNat:Nat):Int)==y.toNat):=fun x y=>by kernel_rfl
 exact zep (fun x y=>by rw [e2,zqi]) a b (by rw [ha,hb])
def z08 (s:Str):AV:=.tup [i64 (zaf ((s.drop 1).take 1)),i64 (zaf (((s.drop 1).drop 1).take 4)),i64 (zaf ((((s.drop 1).drop 1).drop 4).take 6)),i64 0]
theorem zwi (hn:4 ≤ n) (s:Str) (hb:zf8 s=true):C n 205 [.str s] h=some (.ret (z08 s),h):=by
 obtain ⟨m,rfl⟩:=pre1 n
 unfold zf8 at hb
 simp only [Bool.and_eq_true,decide_eq_true_eq] at hb
 obtain ⟨hl,b0,b1,b2⟩:=hb
 refine zak F205 rfl rfl rfl rfl ?_
 have e0:s.getD 0 0=s[0]'(by omega):=by simp [hl]
 have e1:s.getD 1 0=s[1]'(by omega):=by simp [hl]
 rw [e0] at b0
 rw [e1] at b2
 have r0:RDs [AB.cells 0 (some tRdr) [.str s,i64 ((1:Nat):Int)] 0] 0 (s.drop 1):=⟨s,1,rfl,by omega,by omega,rfl⟩
 conv=>whnf
 refine brq (fun a=>absurd a (by omega)) (fun _=>?_)
 conv=>whnf
 refine strI (b:=s[0]'(by omega)) (by omega) (List.getElem?_eq_getElem (by omega)) ?_
 conv=>whnf
 refine brq (fun a=>absurd ((zup _).2 b0) a) (fun _=>?_)
 conv=>whnf
 refine zu0 (c:=508) (by omega) ?_
 conv=>whnf
 refine clI (zmy (n:=m) (by omega) (s.take 508) (by rw [List.length_take];omega)) ?_
 conv=>whnf
 refine br (fun a=>absurd b1 (by simpa using a)) (fun _=>?_)
 conv=>whnf
 refine strI (b:=s[1]'(by omega)) (by omega) (List.getElem?_eq_getElem (by omega)) ?_
 conv=>whnf
 refine zI (z:=((s[1]'(by omega)).toNat:Int)) (by have:=(s[1]'(by omega)).toNat_lt;exact zad (by omega) (by omega)) ?_
 conv=>whnf
 refine clI (zcc (by omega) _ _ _) ?_
 conv=>whnf
 refine brn (fun a=>by rw [b2] at a;cases a) (fun _=>?_)
 conv=>whnf
 refine zc5 (n:=m) (hp:=[AB.cells 0 (some tRdr) [.str s,i64 ((1:Nat):Int)] 0]) (by omega) r0 1 (by omega) (fun h1 q1 r1 k1=>?_) (fun q=>?_)
 rotate_left
 ·exfalso;rw [List.length_drop] at q;omega
 conv=>whnf
 refine zc5 (n:=m) (hp:=h1) (by omega) r1 4 (by omega) (fun h2 q2 r2 k2=>?_) (fun q=>?_)
 rotate_left
 ·exfalso;simp only [List.length_drop] at q;omega
 conv=>whnf
 refine zc5 (n:=m) (hp:=h2) (by omega) r2 6 (by omega) (fun h3 q3 r3 k3=>?_) (fun q=>?_)
 rotate_left
 ·exfalso;simp only [List.length_drop] at q;omega
 conv=>whnf
 exact ⟨rfl,_,rfl,rfl⟩
end
theorem ze3 {k:Nat}{s a t:Str}(h:zef k s=some (a,t)):a.length ≤ s.length ∧ t.length ≤ s.length:=by
 unfold zef at h
 split at h
 ·cases h;simp only [List.length_take,List.length_drop];omega
 ·cases h
theorem zbd {w v:Nat}{s t:Str}(h:pnum w s=some (v,t)):t.length ≤ s.length ∧ v<256 ^ w:=by
 unfold pnum at h
 split at h
 ·rename_i hl
  cases h
  exact ⟨by rw [List.length_drop];omega,zb6 w _ (by rw [List.length_take];omega)⟩
 ·cases h
theorem zrk {d:Dg}{s t:Str}(h:psum s=some (d,t)):t.length ≤ s.length:=by
 unfold psum at h
 split at h
 ·cases h;rw [List.length_drop];omega
 ·cases h
theorem zaq {α β:Type}{o:Option α}{f:α → Option β}{b:β}(h:o.bind f=some b):∃ a,o=some a ∧ f a=some b:=Option.bind_eq_some_iff.1 h
theorem zbn {α β:Type}{o:Option α}{f:α → β}{b:β}(h:o.map f=some b):∃ a,o=some a ∧ f a=b:=Option.map_eq_some_iff.1 h
theorem zla {key:Str}{long:Nat}{s t:Str}{e:Entry}(h:zbb key long s=some (e,t)):e.key=key ∧ e.val.length ≤ s.length ∧ t.length ≤ s.length:=by
 unfold zbb at h
 split at h
 ·obtain ⟨⟨a,s1⟩,h1,h⟩:=zaq h
  obtain ⟨⟨b,s2⟩,h2,h⟩:=zaq h
  obtain ⟨⟨d,s3⟩,h3,h⟩:=zbn h
  cases h
  have:=zbd h1;have:=zbd h2;have:=zrk h3
  exact ⟨rfl,Nat.zero_le _,by simp only at *;omega⟩
 ·split at h
  ·obtain ⟨⟨a,s1⟩,h1,h⟩:=zaq h
   obtain ⟨⟨b,s2⟩,h2,h⟩:=zaq h
   obtain ⟨⟨d,s3⟩,h3,h⟩:=zbn h
   cases h
   have:=zbd h1;have:=zbd h2;have:=zrk h3
   exact ⟨rfl,Nat.zero_le _,by simp only at *;omega⟩
  ·obtain ⟨⟨a,s1⟩,h1,h⟩:=zbn h
   cases h
   have:=ze3 h1
   exact ⟨rfl,this.1,this.2⟩
theorem zvq {key:Str}{lv:Int}{s t:Str}{e:Entry}(h:ze5 key lv s=some (e,t)):e.key=key ∧ e.val.length ≤ s.length ∧ t.length ≤ s.length:=by
 unfold ze5 at h
 split at h
 ·obtain ⟨⟨a,s1⟩,h1,h⟩:=zaq h
  have:=zbd h1
  have:=zla h
  simp only at *
  exact ⟨this.1,by omega,by omega⟩
 ·exact zla h
theorem znz {pre:Str}{lv:Int}:∀ {k i:Nat}{s t:Str}{es:List Entry},zev pre lv k i s=some (es,t) → es.length=k ∧ ∀ e∈es,e.key.length ≤ pre.length+s.length ∧ e.val.length ≤ s.length
 | 0,i,s,t,es,h=>by simp [zev] at h;obtain ⟨rfl,rfl⟩:=h;simp
 | k+1,i,s,t,es,h=>by
  simp only [zev] at h
  obtain ⟨⟨e,s1⟩,h1,h⟩:=zaq h
  obtain ⟨⟨es',s2⟩,h2,h⟩:=zbn h
  cases h
  have ih:=znz h2
  unfold pent at h1
  obtain ⟨⟨a,u1⟩,g1,h1⟩:=zaq h1
  obtain ⟨⟨b,u2⟩,g2,h1⟩:=zaq h1
  have l1:=zbd g1
  have l2:=ze3 g2
  have l3:=zvq h1
  have lk:(preK pre lv i).length ≤ pre.length:=by unfold preK;split<;>simp
  simp only at *
  refine ⟨by simp [ih.1],fun x hx=>?_⟩
  rcases List.mem_cons.1 hx with rfl | hx
  ·rw [l3.1,List.length_append]
   omega
  ·have:=ih.2 x hx
   omega
theorem zvm {s t:Str}{x:NodeP}(h:zc7 s=some (x,t)):x.es.length<65536 ∧ ∀ e∈x.es,e.key.length ≤ 2*s.length ∧ e.val.length ≤ s.length:=by
 unfold zc7 at h
 obtain ⟨⟨a1,s1⟩,h1,h⟩:=zaq h
 obtain ⟨⟨a2,s2⟩,h2,h⟩:=zaq h
 obtain ⟨⟨a3,s3⟩,h3,h⟩:=zaq h
 obtain ⟨⟨a4,s4⟩,h4,h⟩:=zaq h
 obtain ⟨⟨a5,s5⟩,h5,h⟩:=zaq h
 obtain ⟨⟨a6,s6⟩,h6,h⟩:=zaq h
 obtain ⟨⟨a7,s7⟩,h7,h⟩:=zaq h
 obtain ⟨⟨es,s8⟩,h8,h⟩:=zbn h
 cases h
 have l1:=zbd h1
 have l2:=zbd h2
 have l3:=zbd h3
 have l4:=zbd h4
 have l5:=zbd h5
 have l6:=ze3 h6
 have l7:=ze3 h7
 have l8:=znz h8
 simp only at *
 refine ⟨by rw [l8.1];exact l5.2,fun e he=>?_⟩
 have:=l8.2 e he
 omega
theorem zk8:∀ {k:Nat}{s t:Str}{ps:List Nat},zcq k s=some (ps,t) → ps.length=k
 | 0,s,t,es,h=>by simp [zcq] at h;obtain ⟨rfl,rfl⟩:=h;rfl
 | k+1,s,t,es,h=>by
  simp only [zcq] at h
  obtain ⟨⟨e,s1⟩,h1,h⟩:=zaq h
  obtain ⟨⟨es',s2⟩,h2,h⟩:=zbn h
  cases h
  simp [zk8 h2]
theorem zja:∀ {k:Nat}{s t:Str}{l:List (Nat × List Nat)},zbu k s=some (l,t) → l.length=k ∧ ∀ x∈l,x.2.length<65536
 | 0,s,t,es,h=>by simp [zbu] at h;obtain ⟨rfl,rfl⟩:=h;simp
 | k+1,s,t,es,h=>by
  simp only [zbu] at h
  obtain ⟨⟨a1,s1⟩,h1,h⟩:=zaq h
  obtain ⟨⟨a2,s2⟩,h2,h⟩:=zaq h
  obtain ⟨⟨a3,s3⟩,h3,h⟩:=zaq h
  obtain ⟨⟨es',s4⟩,h4,h⟩:=zbn h
  cases h
  have l2:=zbd h2
  have l3:=zk8 h3
  have ih:=zja h4
  simp only at *
  refine ⟨by simp [ih.1],fun x hx=>?_⟩
  rcases List.mem_cons.1 hx with rfl | hx
  ·simp only;rw [l3];exact l2.2
  ·exact ih.2 x hx
theorem FsAre.ok:∀ {fs:List Freed}{l:List (Nat × List Nat)},FsAre fs l → (∀ x∈l,x.2.length<65536) → ∀ f∈fs,f.Ok ∧ f.pages.length<9223372036854775808
 | _,_,.nil,_,f,hf=>by cases hf
 | _,_,.cons (t:=t) h r,hl,f,hf=>by
  rcases List.mem_cons.1 hf with rfl | hf
  ·have:=hl t (List.mem_cons_self ..)
   refine ⟨h.2.2,?_⟩
   rw [h.2.1,List.length_map];omega
  ·exact r.ok (fun x hx=>hl x (List.mem_cons_of_mem _ hx)) f hf
theorem BlkIs.ok {q:Page}{x:Blk}{s:Str}(hs:s.length=512) (hx:zeu s=some x) (hq:BlkIs q x):q.Ok:=by
 unfold zeu at hx
 obtain ⟨⟨a1,s1⟩,h1,h⟩:=zaq hx
 obtain ⟨⟨a2,s2⟩,h2,h⟩:=zaq h
 obtain ⟨⟨a3,s3⟩,h3,h⟩:=zaq h
 obtain ⟨bd,h4,h⟩:=zbn h
 cases h
 have l0:((s.take 508).drop 1).length ≤ 508:=by rw [List.length_drop,List.length_take];omega
 have l1:=zbd h1
 have l2:=zbd h2
 have l3:=zbd h3
 obtain ⟨_,_,_,hb,esz,fsz⟩:=hq
 simp only at *
 unfold zg1 at h4
 split at h4
 ·obtain ⟨⟨y,t⟩,g,h⟩:=zbn h4
  cases h
  have:=zvm g
  obtain ⟨b1,b2,b3,b4,b5,b6,b7⟩:=hb
  refine ⟨esz,fsz,by rw [b4];exact Nat.lt_trans this.1 (by decide),by rw [b7];decide,by rw [b6];decide,fun e he=>?_,fun f hf=>?_⟩
  ·rw [b4] at he
   have:=this.2 e he
   exact ⟨by omega,by omega⟩
  ·rw [b7] at hf;cases hf
 ·split at h4
  ·obtain ⟨⟨y,t⟩,g,h⟩:=zbn h4
   cases h
   obtain ⟨b1,b2,b3,b4,b5,b6,b7⟩:=hb
   unfold zdj at g
   obtain ⟨⟨c1,t1⟩,g1,g⟩:=zaq g
   obtain ⟨⟨c2,t2⟩,g2,g⟩:=zaq g
   obtain ⟨⟨c3,t3⟩,g3,g⟩:=zbn g
   cases g
   have m1:=zbd g1
   have m2:=zbd g2
   have m3:=ze3 g3
   simp only at *
   refine ⟨esz,fsz,by rw [b4];decide,by rw [b7];decide,by rw [b6];omega,fun e he=>?_,fun f hf=>?_⟩
   ·rw [b4] at he;cases he
   ·rw [b7] at hf;cases hf
  ·obtain ⟨⟨y,t⟩,g,h⟩:=zbn h4
   cases h
   obtain ⟨b1,b2,b3,b4,b5,b6,b7⟩:=hb
   unfold zhn at g
   obtain ⟨⟨c1,t1⟩,g1,g⟩:=zaq g
   obtain ⟨⟨c2,t2⟩,g2,g⟩:=zaq g
   obtain ⟨⟨c3,t3⟩,g3,g⟩:=zbn g
   cases g
   have m2:=zbd g2
   have m3:=zja g3
   have hlen:=b7.length_eq
   simp only at *
   refine ⟨esz,fsz,by rw [b4];decide,by rw [hlen,m3.1];exact Nat.lt_trans m2.2 (by decide),by rw [b6];decide,fun e he=>?_,b7.ok m3.2⟩
   rw [b4] at he;cases he
theorem ztn {n:Nat}(e:Entry):zex (n+2) e.av:=zby (zo6 e)
theorem zti {n:Nat}(f:Freed):zex (n+3) f.av:=zby fun x hx=>by
 simp only [Freed.cells,List.mem_cons,List.not_mem_nil,or_false] at hx
 rcases hx with rfl | rfl
 ·exact zat
 ·exact zd5 fun y hy=>by obtain ⟨k,_,rfl⟩:=List.mem_map.1 hy;exact zat
theorem zn1 {n:Nat}(q:Page):zex (n+5) q.av:=zby fun x hx=>by
 simp only [Page.cells,List.mem_cons,List.not_mem_nil,or_false] at hx
 rcases hx with rfl | rfl | rfl | rfl | rfl | rfl | rfl | rfl | rfl | rfl
 ·exact zat
 ·exact zat
 ·exact zat
 ·exact zat
 ·exact zat
 ·exact zlk
 ·exact zd5 fun y hy=>by obtain ⟨k,_,rfl⟩:=List.mem_map.1 hy;exact ztn k
 ·exact zat
 ·exact zg6
 ·exact zd5 fun y hy=>by obtain ⟨k,_,rfl⟩:=List.mem_map.1 hy;exact zti k
theorem zhi:∀ (s:Str) (a:Nat),s.foldl (fun n b=>n*256+b.toNat) a=a*256 ^ s.length+zaf s
 | [],a=>by simp [zaf]
 | c::s,a=>by
  have h1:=zhi s (a*256+c.toNat)
  have h2:=zhi s (0*256+c.toNat)
  show s.foldl (fun n b=>n*256+b.toNat) (a*256+c.toNat)=_
  have h3:zaf (c::s)=s.foldl (fun n b=>n*256+b.toNat) (0*256+c.toNat):=rfl
  rw [h1,h3,h2,List.length_cons,Nat.pow_succ]
  rw [Nat.add_mul,Nat.zero_mul,Nat.zero_add,Nat.mul_assoc,Nat.mul_comm 256,Nat.add_assoc]
theorem zsm (c:UInt8) (s:Str):zaf (c::s)=c.toNat*256 ^ s.length+zaf s:=by
 have h:zaf (c::s)=s.foldl (fun n b=>n*256+b.toNat) (0*256+c.toNat):=rfl
 rw [h,zhi,Nat.zero_mul,Nat.zero_add]
theorem zne (k:Nat):∀ w,zaf (num k w)=k % 256 ^ w
 | 0=>by simp [num,zaf,Nat.mod_one]
 | w+1=>by
  show zaf (UInt8.ofNat (k / 256 ^ w)::num k w)=_
  rw [zsm,zne k w,zal,UInt8.toNat_ofNat']
  show k / 256 ^ w % 256*256 ^ w+k % 256 ^ w=k % (256 ^ w*256)
  rw [Nat.mod_mul,Nat.mul_comm,Nat.add_comm]
theorem zay {k w:Nat}(h:k<256 ^ w) (t:Str):pnum w (num k w++t)=some (k,t):=by
 unfold pnum
 rw [if_pos (by rw [List.length_append,zal];omega),List.take_left' (zal k w),List.drop_left' (zal k w),zne,Nat.mod_eq_of_lt h]
theorem ze4 {k:Nat}(s t:Str) (h:s.length=k):zef k (s++t)=some (s,t):=by
 unfold zef
 rw [if_pos (by rw [List.length_append];omega),List.take_left' h,List.drop_left' h]
theorem zmf (d:Dg) (t:Str):psum (d.bytes++t)=some (d,t):=by
 unfold psum
 rw [if_pos (by rw [List.length_append,d.bytes_len];omega),List.take_left' d.bytes_len,List.drop_left' d.bytes_len]
 rfl
theorem zlm {e:Entry}(h:zaz e≠0):e.key.length ≤ 48 ∧ ((e.over=0 ∧ e.len=0 ∧ e.child=0 ∧ e.count=0 ∧ e.sum=Dg.zero ∧ e.val.length ≤ 64) ∨ (e.val=[] ∧ e.child=0 ∧ e.count=0 ∧ (2 ≤ e.over ∧ e.over ≤ 4095) ∧ (65 ≤ e.len ∧ e.len ≤ 4000)) ∨
  (e.val=[] ∧ e.over=0 ∧ e.len=0 ∧ (2 ≤ e.child ∧ e.child ≤ 4095) ∧ (1 ≤ e.count ∧ e.count ≤ 2147483647))):=by
 unfold zaz at h
 split at h
 ·exact (h rfl).elim
 ·rename_i hk
  have hk':(e.key.length:Int) ≤ 48:=by
   have:za3 e.key.length 1 48=true:=by simpa using hk
   exact (within_iff.1 this).2
  refine ⟨by omega,?_⟩
  split at h
  ·rename_i hs
   simp [zei] at hs
   left
   obtain ⟨⟨⟨⟨⟨a,b⟩,c⟩,d⟩,f⟩,g⟩:=hs
   exact ⟨a,b,c,d,f,g⟩
  ·split at h
   ·exact (h rfl).elim
   ·rename_i hv
    have hv':e.val=[]:=by simpa using hv
    split at h
    ·rename_i hl
     simp [zjh,za6,za3] at hl
     right;left
     obtain ⟨⟨⟨a,b⟩,c,d⟩,f,g⟩:=hl
     exact ⟨hv',a,b,⟨c,d⟩,f,g⟩
    ·split at h
     ·rename_i hn
      simp [zjg,za6,za3] at hn
      right;right
      obtain ⟨⟨⟨a,b⟩,c,d⟩,f,g⟩:=hn
      exact ⟨hv',a,b,⟨c,d⟩,f,g⟩
     ·exact (h rfl).elim
theorem zh8 {e:Entry}(h:zbq e=true):e.key.length ≤ 48 ∧ e.val=[] ∧ e.over=0 ∧ e.len=0 ∧ (2 ≤ e.child ∧ e.child ≤ 4095) ∧ (1 ≤ e.count ∧ e.count ≤ 2147483647):=by
 simp [zbq,za6,za3] at h
 obtain ⟨⟨⟨⟨⟨a,b⟩,c⟩,d⟩,f,g⟩,i,j⟩:=h
 exact ⟨a,b,c,d,⟨f,g⟩,i,j⟩
theorem zs1 {e:Entry}{lv:Int}(h0:0 ≤ lv) (hf:if lv=0 then zaz e≠0 else zbq e=true) (t:Str):ze5 e.key lv (zhk e lv++t)=some (e,t):=by
 obtain ⟨key,val,over,len,child,count,sum⟩:=e
 by_cases hl:lv=0
 ·rw [if_pos hl] at hf
  subst hl
  have hc:=(zlm hf).2
  simp only at hc
  unfold ze5 zhk
  rw [if_pos rfl,if_neg (by decide)]
  simp only
  rcases hc with ⟨rfl,rfl,rfl,rfl,rfl,hv⟩ | ⟨rfl,rfl,rfl,ho,hn⟩ | ⟨rfl,rfl,rfl,ho,hn⟩
  ·rw [if_neg (by decide),if_neg (by decide),List.append_assoc,zay (Nat.lt_of_le_of_lt hv (by decide))]
   simp only [Option.bind_some]
   unfold zbb
   rw [if_neg (by omega),if_neg (by omega),ze4 _ _ rfl]
   rfl
  ·rw [if_pos (by omega)]
   simp only [List.append_assoc]
   rw [zay (by decide)]
   simp only [Option.bind_some]
   unfold zbb
   have e1:over.toNat<256 ^ 4:=Nat.lt_of_lt_of_le (show over.toNat<4096 by omega) (by decide)
   have e2:len.toNat<256 ^ 2:=Nat.lt_of_lt_of_le (show len.toNat<4096 by omega) (by decide)
   rw [if_pos rfl,zay e1]
   simp only [Option.bind_some]
   rw [zay e2]
   simp only [Option.bind_some]
   rw [zmf]
   simp only [Option.map_some]
   rw [show ((over.toNat:Nat):Int)=over by omega,show ((len.toNat:Nat):Int)=len by omega]
  ·rw [if_neg (by decide),if_pos (by omega)]
   simp only [List.append_assoc]
   rw [zay (by decide)]
   simp only [Option.bind_some]
   unfold zbb
   have e1:child.toNat<256 ^ 4:=Nat.lt_of_lt_of_le (show child.toNat<4096 by omega) (by decide)
   have e2:count.toNat<256 ^ 4:=Nat.lt_of_lt_of_le (show count.toNat<2147483648 by omega) (by decide)
   rw [if_neg (by decide),if_pos rfl,zay e1]
   simp only [Option.bind_some]
   rw [zay e2]
   simp only [Option.bind_some]
   rw [zmf]
   simp only [Option.map_some]
   rw [show ((child.toNat:Nat):Int)=child by omega,show ((count.toNat:Nat):Int)=count by omega]
 ·rw [if_neg hl] at hf
  obtain ⟨_,rfl,rfl,rfl,ho,hn⟩:=zh8 hf
  simp only at ho hn
  unfold ze5 zhk
  rw [if_neg hl,if_pos (by omega)]
  simp only [List.append_assoc]
  unfold zbb
  have e1:child.toNat<256 ^ 4:=Nat.lt_of_lt_of_le (show child.toNat<4096 by omega) (by decide)
  have e2:count.toNat<256 ^ 4:=Nat.lt_of_lt_of_le (show count.toNat<2147483648 by omega) (by decide)
  rw [if_neg (by decide),if_pos rfl,zay e1]
  simp only [Option.bind_some]
  rw [zay e2]
  simp only [Option.bind_some]
  rw [zmf]
  simp only [Option.map_some]
  rw [show ((child.toNat:Nat):Int)=child by omega,show ((count.toNat:Nat):Int)=count by omega]
theorem z20 {e:Entry}{lv:Int}(hf:if lv=0 then zaz e≠0 else zbq e=true):e.key.length ≤ 48:=by
 split at hf
 ·exact (zlm hf).1
 ·exact (zh8 hf).1
theorem zze {l:List Entry}{lv:Int}(h0:0 ≤ lv) {i:Nat}(hi:i<l.length):preK (shared l lv) lv i++l[i].key.drop (zdx l lv i)=l[i].key:=by
 unfold preK zdx
 by_cases h:i=0 ∧ 0<lv
 ·rw [if_pos h,if_neg (by omega)];rfl
 ·rw [if_neg h,if_pos (by omega)]
  have hm:l[i]∈zdv l lv:=by
   unfold zdv
   by_cases hl:0<lv
   ·rw [if_pos hl]
    have:(l.drop 1)[i-1]?=some l[i]:=by rw [List.getElem?_drop,show 1+(i-1)=i by omega];exact List.getElem?_eq_getElem hi
    exact List.mem_of_getElem? this
   ·rw [if_neg hl];exact List.getElem_mem hi
  obtain ⟨r,hr⟩:=zgv l lv _ hm
  conv=>rhs;rw [← hr]
  rw [← hr,List.drop_left]
def ebF (l:List Entry) (lv:Int):Nat → Nat → Str
 | 0,_=>[]
 | k+1,i=>entB (zdx l lv i) (l.getD i default) lv++ebF l lv k (i+1)
theorem zlq (l:List Entry) (lv:Int):∀ (k i:Nat),i+k ≤ l.length → zea l lv (i+k)=zea l lv i++ebF l lv k i
 | 0,i,_=>by simp [ebF]
 | k+1,i,h=>by
  rw [show i+(k+1)=(i+1)+k by omega,zlq l lv k (i+1) (by omega),zd9 l lv (by omega),ebF,List.append_assoc,zqc (show i<l.length by omega)]
theorem zn0 {l:List Entry}{lv:Int}(hv:zdf l lv=true) (t:Str):∀ (k i:Nat),i+k=l.length → zev (shared l lv) lv k i (ebF l lv k i++t)=some (l.drop i,t)
 | 0,i,h=>by
  simp only [zev,ebF,List.nil_append]
  rw [List.drop_of_length_le (by omega)]
 | k+1,i,h=>by
  have hi:i<l.length:=by omega
  have hf:=(zhh hv hi).1
  have h0:=(valid_iff.1 hv).1.1
  have hk:=z20 hf
  simp only [zev,ebF]
  rw [← zqc hi,List.append_assoc]
  have e1:pent (shared l lv) lv i (entB (zdx l lv i) l[i] lv++(ebF l lv k (i+1)++t))=some (l[i],ebF l lv k (i+1)++t):=by
   unfold pent entB
   simp only [List.append_assoc]
   rw [zay (Nat.lt_of_le_of_lt (show l[i].key.length-zdx l lv i ≤ 48 by omega) (by decide))]
   simp only [Option.bind_some]
   rw [ze4 _ _ (by rw [List.length_drop])]
   simp only [Option.bind_some]
   rw [zze h0 hi]
   exact zs1 h0 hf _
  rw [e1]
  simp only [Option.bind_some]
  rw [zn0 hv t k (i+1) (by omega)]
  simp only [Option.map_some]
  rw [List.drop_eq_getElem_cons hi]
theorem zvn {l:List Entry}{tree lv:Int}{top:Bool}(ht:0 ≤ tree ∧ tree ≤ 255) (hf:fits l lv=true) (t:Str):zc7 (zkl tree lv top l 12++t)=some (⟨tree.toNat,lv.toNat,top,l⟩,t):=by
 obtain ⟨_,hv,hlen⟩:=zg2 (tree:=tree) (top:=top) (base:=12) hf
 obtain ⟨⟨q1,q2⟩,_⟩:=valid_iff.1 hv
 have hs:=zk3 hv
 unfold zc7 zkl
 simp only [List.append_assoc]
 rw [zay (Nat.lt_of_le_of_lt (show tree.toNat ≤ 255 by omega) (by decide))]
 simp only [Option.bind_some]
 rw [zay (Nat.lt_of_le_of_lt (show lv.toNat ≤ 20 by omega) (by decide))]
 simp only [Option.bind_some]
 rw [zay (by cases top<;>decide)]
 simp only [Option.bind_some]
 rw [zay (Nat.lt_of_le_of_lt hs (by decide))]
 simp only [Option.bind_some]
 rw [zay (Nat.lt_of_le_of_lt hlen (by decide))]
 simp only [Option.bind_some]
 rw [ze4 _ _ rfl]
 simp only [Option.bind_some]
 rw [ze4 _ _ (by rw [zfa])]
 simp only [Option.bind_some]
 have e:=zlq l lv l.length 0 (by omega)
 rw [Nat.zero_add] at e
 have e0:zea l lv 0=[]:=rfl
 rw [e,e0,List.nil_append,show ((lv.toNat:Nat):Int)=lv by omega,zn0 hv t l.length 0 (by omega)]
 simp only [Option.map_some,List.drop_zero]
 cases top<;>rfl
theorem zs0 {next:Int}{data:Str}(hn:0 ≤ next ∧ next ≤ 4095) (hd:data.length ≤ 490) (t:Str):zdj (zh3 next data++t)=some ((next.toNat,data),t):=by
 unfold zdj zh3
 simp only [List.append_assoc]
 rw [zay (Nat.lt_of_le_of_lt (show next.toNat ≤ 4095 by omega) (by decide))]
 simp only [Option.bind_some]
 rw [zay (Nat.lt_of_le_of_lt hd (by decide))]
 simp only [Option.bind_some]
 rw [ze4 _ _ rfl]
 rfl
theorem zk9 (t:Str):∀ {l:List Int},(∀ x∈l,2 ≤ x ∧ x ≤ 4095) → zcq l.length (zd0 l++t)=some (l.map Int.toNat,t)
 | [],_=>rfl
 | x::l,h=>by
  have hx:=h x (List.mem_cons_self ..)
  show zcq (l.length+1) ((num x.toNat 4++zd0 l)++t)=_
  simp only [zcq,List.append_assoc]
  rw [zay (Nat.lt_of_le_of_lt (show x.toNat ≤ 4095 by omega) (by decide))]
  simp only [Option.bind_some]
  rw [zk9 t fun y hy=>h y (List.mem_cons_of_mem _ hy)]
  rfl
def ztv (f:Freed):Nat × List Nat:=(f.ver.toNat,f.pages.map Int.toNat)
theorem zjb (t:Str):∀ {l:List Freed},(∀ f∈l,(0 ≤ f.ver ∧ f.ver ≤ 1099511627776) ∧ f.pages.length ≤ 4094 ∧ ∀ x∈f.pages,2 ≤ x ∧ x ≤ 4095) → zbu l.length (zbg l++t)=some (l.map ztv,t)
 | [],_=>rfl
 | f::l,h=>by
  obtain ⟨hv,hp,hx⟩:=h f (List.mem_cons_self ..)
  show zbu (l.length+1) ((zg7 f++zbg l)++t)=_
  unfold zg7
  simp only [zbu,List.append_assoc]
  rw [zay (Nat.lt_of_le_of_lt (show f.ver.toNat ≤ 1099511627776 by omega) (by decide))]
  simp only [Option.bind_some]
  rw [zay (Nat.lt_of_le_of_lt hp (by decide))]
  simp only [Option.bind_some]
  rw [zk9 _ hx]
  simp only [Option.bind_some]
  rw [zjb t fun y hy=>h y (List.mem_cons_of_mem _ hy)]
  rfl
theorem zvo {next:Int}{l:List Freed}(hn:0 ≤ next ∧ next ≤ 4095) (hok:zek l=true) (hlen:l.length ≤ 490) (t:Str):zhn (zn7 next l++t)=some ((next.toNat,l.map ztv),t):=by
 unfold zhn zn7
 simp only [List.append_assoc]
 rw [zay (Nat.lt_of_le_of_lt (show next.toNat ≤ 4095 by omega) (by decide))]
 simp only [Option.bind_some]
 rw [zay (Nat.lt_of_le_of_lt hlen (by decide))]
 simp only [Option.bind_some]
 rw [zjb t fun f hf=>by
  obtain ⟨i,hi,rfl⟩:=List.getElem_of_mem hf
  obtain ⟨h1,_,_,h4⟩:=zhu hok hi
  refine ⟨h1,zvp h4,fun x hx=>?_⟩
  obtain ⟨j,hj,rfl⟩:=List.getElem_of_mem hx
  exact (zmg h4 hj).1]
 rfl
def bdOf (p:Page):Bdy:=if p.kind=3 then .pc (p.next.toNat,p.data) else if p.kind=4 then .ls (p.next.toNat,p.freed.map ztv) else .nd ⟨p.tree.toNat,p.level.toNat,p.top,p.entries⟩
theorem zta (l:List Freed):6+8*(l.length:Int) ≤ zbo l:=by
 induction l with
 | nil=>simp [zbo]
 | cons f r ih=>simp only [zbo,List.map_cons,List.sum_cons,List.length_cons] at ih ⊢;omega
theorem zvk {p:Page}(hc:p.check=true):zeu p.enc=some ⟨p.kind.toNat,p.no.toNat,p.ver.toNat,bdOf p⟩:=by
 obtain ⟨hno,hver,hk⟩:=check_iff.1 hc
 have e0:(p.enc.take 508).drop 1=num p.kind.toNat 1++(num p.no.toNat 4++(num p.ver.toNat 6++(p.bodyB++zau (508-p.used.length)))):=by
  have:p.enc.take 508=p.full:=by
   unfold Page.enc
   rw [List.take_append_of_le_length (by rw [zf0 hc];decide),List.take_of_length_le (by rw [zf0 hc];decide)]
  rw [this]
  unfold Page.full Page.used Page.headB
  simp only [List.cons_append,List.drop_succ_cons,List.drop_zero,List.append_assoc]
 have hkind:p.kind.toNat ≤ 4:=by omega
 unfold zeu
 rw [e0,zay (Nat.lt_of_le_of_lt hkind (by decide))]
 simp only [Option.bind_some]
 rw [zay (Nat.lt_of_le_of_lt (show p.no.toNat ≤ 4095 by omega) (by decide))]
 simp only [Option.bind_some]
 rw [zay (Nat.lt_of_le_of_lt (show p.ver.toNat ≤ 1099511627776 by omega) (by decide))]
 simp only [Option.bind_some]
 have e1:zg1 p.kind.toNat (p.bodyB++zau (508-p.used.length))=some (bdOf p):=by
  unfold zg1 Page.bodyB bdOf
  rcases hk with ⟨h1,ht,_,hf,_⟩ | ⟨h1,_,hl,hd,_⟩ | ⟨h1,_,hl,_,hok,hs⟩
  ·rw [if_pos (by omega),if_neg (by omega),if_neg (by omega),zvn ht hf,if_neg (by omega),if_neg (by omega)]
   rfl
  ·rw [if_neg (by omega),if_pos (by omega),if_pos h1,zs0 (zd2 hl) (by omega),if_pos h1]
   rfl
  ·have:=zta p.freed
   rw [if_neg (by omega),if_neg (by omega),if_neg (by omega),if_pos h1,zvo (zd2 hl) hok (by omega),if_neg (by omega),if_pos h1]
   rfl
 rw [e1]
 rfl
def DecS (s:Str) (r:CRes):Prop:=match zeu s with
 | none=>r=.ret (.tup [.agg zbr,i64 8])
 | some x=>∃ q:Page,BlkIs q x ∧ q.Ok ∧ r=if q.check=true ∧ q.enc=s then .ret (.tup [q.av,i64 0]) else .ret (.tup [.agg zbr,i64 8])
section
variable {n:Nat}{s:Str}
theorem zik {L:LT}{h:zaa}{cs:List AV}{k:Int}(h2:lk L 2=some (.ptr 0 0 0)) (h3:lk L 3=some (i64 k)) (hP:h[0]?=some (.cells 0 (some 79) cs 0)) (hc:cs.length=10):zb3 Tryz.prog L h [.cell 2 79,.tmp 3]=some [.agg cs,i64 k]:=by
 simp only [zb3,h2,h3,zho hc hP]
theorem zlz {h:zaa}{k:Int}:frz h 64 (.tup [.agg zbr,i64 k])=some (.tup [.agg zbr,i64 k]):=rfl
theorem z06 {h:zaa}{q:Page}{k:Int}:frz h 64 (.tup [q.av,i64 k])=some (.tup [q.av,i64 k]):=zwr (n:=63) (fun x hx=>by
 simp only [List.mem_cons,List.not_mem_nil,or_false] at hx
 rcases hx with rfl | rfl
 ·exact zn1 q
 ·exact zat) h
theorem zoy (hn:10 ≤ n) (hs:zf8 s=true):∃ r,(∀ h,C n 162 [.str s] h=some (r,h)) ∧ DecS s r:=by
 obtain ⟨m,rfl⟩:=pre1 n
 have hl:s.length=512:=by
  unfold zf8 at hs
  simp only [Bool.and_eq_true,decide_eq_true_eq] at hs
  exact hs.1
 obtain ⟨m',rfl⟩ : ∃ k,m=k+1:=⟨m-1,by omega⟩
 obtain ⟨r,e1,hr⟩:=z17 (m:=m') (s:=s) (by omega) hl
 unfold zx6 at hr
 unfold DecS
 have cH:∀ h,C (m'+1) 205 [.str s] h=some (.ret (z08 s),h):=fun h=>zwi (by omega) s hs
 cases hp:zeu s with
 | none =>
  rw [hp] at hr
  simp only at hr
  subst hr
  refine ⟨_,fun h=>?_,rfl⟩
  refine zak F162 rfl rfl rfl rfl ?_
  conv=>whnf
  refine clI (cH _) ?_
  conv=>whnf
  refine clI (e1 _) ?_
  conv=>whnf
  refine stJ (xs:=zbr) (by rfl) ?_
  conv=>whnf
  refine stJ (xs:=zbr) (by rfl) ?_
  exact ⟨rfl,_,zik rfl rfl rfl rfl,zlz⟩
 | some x =>
  rw [hp] at hr
  simp only at hr
  obtain ⟨q,rfl,hq⟩:=hr
  have ok:=hq.ok hl hp
  have cC:∀ h,C (m'+1) 143 [q.av] h=some (.ret (i64 (if q.check then 0 else 2)),h):=fun h=>zm2 (by omega) q ok
  cases hc:q.check with
  | false =>
   rw [hc] at cC
   refine ⟨.ret (.tup [.agg zbr,i64 8]),fun h=>?_,q,hq,ok,by rw [if_neg (by simp [hc])]⟩
   refine zak F162 rfl rfl rfl rfl ?_
   conv=>whnf
   refine clI (cH _) ?_
   conv=>whnf
   refine clI (e1 _) ?_
   conv=>whnf
   refine stJ (xs:=q.cells) (by rfl) ?_
   conv=>whnf
   refine ldI (by rfl) ?_
   conv=>whnf
   refine clI (cC _) ?_
   conv=>whnf
   refine stJ (xs:=zbr) (by rfl) ?_
   exact ⟨rfl,_,zik rfl rfl rfl rfl,zlz⟩
  | true =>
   rw [hc] at cC
   have cE:∀ h,C (m'+1) 119 [q.av] h=some (.ret (.tup [.str q.enc,i64 0]),h):=fun h=>by
    rw [zw4 (by omega) q ok,hc];rfl
   have cB1:∀ h,C (m'+1) 207 [.str q.enc] h=some (.ret (.agg (q.enc.map u8)),h):=fun h=>zlw (by omega) _ (zql hc)
   have cB2:∀ h,C (m'+1) 207 [.str s] h=some (.ret (.agg (s.map u8)),h):=fun h=>zlw (by omega) _ hl
   have walk:∀ (r:CRes),r=(if q.enc=s then .ret (.tup [q.av,i64 0]) else .ret (.tup [.agg zbr,i64 8])) → ∀ h,C (m'+1+1) 162 [.str s] h=some (r,h):=fun r er h=>by
    obtain ⟨v,ev⟩ : ∃ v,r=.ret v:=by
     rw [er];split<;>exact ⟨_,rfl⟩
    rw [ev]
    rw [ev] at er
    refine zak F162 rfl rfl rfl rfl ?_
    conv=>whnf
    refine clI (cH _) ?_
    conv=>whnf
    refine clI (e1 _) ?_
    conv=>whnf
    refine stJ (xs:=q.cells) (by rfl) ?_
    conv=>whnf
    refine ldI (by rfl) ?_
    conv=>whnf
    refine clI (cC _) ?_
    conv=>whnf
    refine ldI (by rfl) ?_
    conv=>whnf
    refine clI (cE _) ?_
    conv=>whnf
    refine clI (cB1 _) ?_
    conv=>whnf
    refine clI (cB2 _) ?_
    conv=>whnf
    refine eqI (z0h _ _ (zql hc) hl) ?_
    conv=>whnf
    refine brn (fun a=>?_) (fun a=>?_)
    ·have a':¬ q.enc=s:=of_decide_eq_false a
     rw [if_neg a'] at er
     cases er
     conv=>whnf
     refine stJ (xs:=zbr) (by rfl) ?_
     exact ⟨rfl,_,zik rfl rfl rfl rfl,zlz⟩
    ·have a':q.enc=s:=of_decide_eq_true a
     rw [if_pos a'] at er
     cases er
     conv=>whnf
     refine ldI (by rfl) ?_
     conv=>whnf
     refine stJ (xs:=q.cells) (by rfl) ?_
     exact ⟨rfl,_,zik rfl rfl rfl rfl,z06⟩
   refine ⟨_,walk _ rfl,q,hq,ok,?_⟩
   by_cases a:q.enc=s
   ·rw [if_pos a,if_pos ⟨hc,a⟩]
   ·rw [if_neg a,if_neg (fun h=>a h.2)]
end
def Freed.core (f:Freed):Int × List Int:=(f.ver,f.pages)
structure Same (p q:Page):Prop where
 kind:q.kind=p.kind
 no:q.no=p.no
 ver:q.ver=p.ver
 tree:q.tree=p.tree
 level:q.level=p.level
 top:q.top=p.top
 entries:q.entries=p.entries
 next:q.next=p.next
 data:q.data=p.data
 freed:q.freed.map Freed.core=p.freed.map Freed.core
theorem zhc {a b:List Freed}(h:a.map Freed.core=b.map Freed.core):a.length=b.length:=by
 have:=congrArg List.length h
 simpa using this
theorem zm0 {a b:List Freed}(h:a.map Freed.core=b.map Freed.core) (k:Nat):(a.getD k default).ver=(b.getD k default).ver ∧ (a.getD k default).pages=(b.getD k default).pages:=by
 have hl:=zhc h
 by_cases hk:k<a.length
 ·have hk':k<b.length:=by omega
  have h1:(a.map Freed.core)[k]?=(b.map Freed.core)[k]?:=by rw [h]
  rw [List.getElem?_map,List.getElem?_map,List.getElem?_eq_getElem hk,List.getElem?_eq_getElem hk'] at h1
  have h2:a[k].core=b[k].core:=Option.some.inj h1
  have e1:a.getD k default=a[k]:=by simp [hk]
  have e2:b.getD k default=b[k]:=by simp [hk']
  rw [e1,e2]
  exact ⟨congrArg Prod.fst h2,congrArg Prod.snd h2⟩
 ·have e1:a.getD k default=default:=by simp [List.getElem?_eq_none (show a.length ≤ k by omega)]
  have e2:b.getD k default=default:=by simp [List.getElem?_eq_none (show b.length ≤ k by omega)]
  rw [e1,e2]
  exact ⟨rfl,rfl⟩
theorem zoh {a b:List Freed}(h:a.map Freed.core=b.map Freed.core):zek a=zek b:=by
 unfold zek
 rw [zhc h]
 congr 1
 funext k
 unfold frAt
 rw [(zm0 h k).1,(zm0 h k).2,(zm0 h (k-1)).1]
theorem zp5 {a b:List Freed}(h:a.map Freed.core=b.map Freed.core):zbo a=zbo b:=by
 have e:∀ l:List Freed,(l.map fun f=>8+4*(f.pages.length:Int))=(l.map Freed.core).map fun c=>8+4*(c.2.length:Int):=fun l=>by rw [List.map_map];rfl
 unfold zbo
 rw [e a,e b,h]
theorem zog {a b:List Freed}(h:a.map Freed.core=b.map Freed.core):zbg a=zbg b:=by
 have e:∀ l:List Freed,zbg l=(l.map Freed.core).flatMap fun c=>num c.1.toNat 6++(num c.2.length 2++zd0 c.2):=fun l=>by
  induction l with
  | nil=>rfl
  | cons f r ih =>
   simp only [zbg,List.flatMap_cons,List.map_cons] at ih ⊢
   rw [ih];rfl
 rw [e a,e b,h]
theorem Same.check {p q:Page}(h:Same p q):q.check=p.check:=by
 unfold Page.check Page.plain
 rw [h.kind,h.no,h.ver,h.tree,h.level,h.top,h.entries,h.next,h.data,zoh h.freed,zp5 h.freed,zhc h.freed]
theorem Same.enc {p q:Page}(h:Same p q):q.enc=p.enc:=by
 have e:q.full=p.full:=by
  unfold Page.full Page.used Page.headB Page.bodyB zn7
  rw [h.kind,h.no,h.ver,h.tree,h.level,h.top,h.entries,h.next,h.data,zog h.freed,zhc h.freed]
 unfold Page.enc
 rw [e]
theorem zob:∀ {l:List Int},(∀ x∈l,0 ≤ x) → (l.map Int.toNat).map (fun p:Nat=>(p:Int))=l
 | [],_=>rfl
 | x::l,h=>by
  have hx:=h x (List.mem_cons_self ..)
  simp only [List.map_cons]
  rw [zob fun y hy=>h y (List.mem_cons_of_mem _ hy),show ((x.toNat:Nat):Int)=x by omega]
theorem zwn:∀ {fs l:List Freed},FsAre fs (l.map ztv) → (∀ f∈l,0 ≤ f.ver ∧ ∀ x∈f.pages,0 ≤ x) → fs.map Freed.core=l.map Freed.core
 | fs,[],h,_=>by cases h;rfl
 | fs,f::l,h,hl=>by
  cases h with
  | cons h1 h2 =>
   rename_i g gs
   have hf:=hl f (List.mem_cons_self ..)
   simp only [List.map_cons]
   rw [zwn h2 fun y hy=>hl y (List.mem_cons_of_mem _ hy)]
   congr 1
   unfold Freed.core
   rw [h1.1,h1.2.1]
   have e1:((ztv f).1:Int)=f.ver:=by show ((f.ver.toNat:Nat):Int)=_;omega
   have e2:(ztv f).2.map (fun p:Nat=>(p:Int))=f.pages:=zob hf.2
   rw [e1,e2]
theorem z1w {p q:Page}(hc:p.check=true) (hq:BlkIs q ⟨p.kind.toNat,p.no.toNat,p.ver.toNat,bdOf p⟩):Same p q:=by
 obtain ⟨hno,hver,hk⟩:=check_iff.1 hc
 obtain ⟨q1,q2,q3,q4,_,_⟩:=hq
 simp only at q1 q2 q3 q4
 unfold bdOf at q4
 rcases hk with ⟨h1,ht,_,hf,hn,hd,hfr⟩ | ⟨h1,hp,hl,hd,hfr⟩ | ⟨h1,hp,hl,hd,hok,hs⟩
 ·rw [if_neg (by omega),if_neg (by omega)] at q4
  obtain ⟨b1,b2,b3,b4,b5,b6,b7⟩:=q4
  have hlv:=(valid_iff.1 (zg2 (tree:=0) (top:=true) (base:=12) hf).2.1).1.1
  exact ⟨by omega,by omega,by omega,by simp only at b1;omega,by simp only at b2;omega,b3,b4,by omega,by rw [b6,hd],by rw [b7,hfr]⟩
 ·rw [if_pos h1] at q4
  obtain ⟨b1,b2,b3,b4,b5,b6,b7⟩:=q4
  have hnx:=(zd2 hl).1
  simp [Page.plain] at hp
  obtain ⟨p1,p2,p3,p4⟩:=hp
  exact ⟨by omega,by omega,by omega,by omega,by omega,by rw [b3,p3],by rw [b4,p4],by simp only at b5;omega,b6,by rw [b7,hfr]⟩
 ·rw [if_neg (by omega),if_pos h1] at q4
  obtain ⟨b1,b2,b3,b4,b5,b6,b7⟩:=q4
  have hnx:=(zd2 hl).1
  simp [Page.plain] at hp
  obtain ⟨p1,p2,p3,p4⟩:=hp
  refine ⟨by omega,by omega,by omega,by omega,by omega,by rw [b3,p3],by rw [b4,p4],by simp only at b5;omega,by rw [b6,hd],zwn b7 fun f hf=>?_⟩
  obtain ⟨i,hi,rfl⟩:=List.getElem_of_mem hf
  obtain ⟨g1,_,_,g4⟩:=zhu hok hi
  refine ⟨g1.1,fun x hx=>?_⟩
  obtain ⟨j,hj,rfl⟩:=List.getElem_of_mem hx
  have:=(zmg g4 hj).1
  omega
theorem ztf {p:Page}(hc:p.check=true):zf8 p.enc=true:=by
 obtain ⟨hno,hver,hk⟩:=check_iff.1 hc
 have h1:p.enc.take 508=p.full:=by
  unfold Page.enc
  rw [List.take_append_of_le_length (by rw [zf0 hc];decide),List.take_of_length_le (by rw [zf0 hc];decide)]
 have h2:p.enc.getD 0 0=85:=rfl
 have h3:p.enc.getD 1 0=UInt8.ofNat (p.kind.toNat / 256 ^ 0):=rfl
 have h4:(UInt8.ofNat (p.kind.toNat / 256 ^ 0)).toNat=p.kind.toNat:=by
  rw [UInt8.toNat_ofNat']
  simp
  omega
 unfold zf8
 rw [h1,h2,h3,h4,zql hc]
 have h5:p.full++crcB p.full=p.enc:=rfl
 rw [h5]
 simp [za3]
 omega
theorem ztr {n:Nat}(hn:10 ≤ n) {p:Page}(hc:p.check=true):∃ q:Page,Same p q ∧ q.Ok ∧ ∀ h,C n 162 [.str p.enc] h=some (.ret (.tup [q.av,i64 0]),h):=by
 obtain ⟨r,e1,e2⟩:=zoy hn (ztf hc)
 unfold DecS at e2
 rw [zvk hc] at e2
 obtain ⟨q,hq,ok,e3⟩:=e2
 have hs:=z1w hc hq
 rw [if_pos ⟨by rw [hs.check,hc],hs.enc⟩] at e3
 subst e3
 exact ⟨q,hs,ok,e1⟩
theorem z2f {a:Nat}{t:Str}{c:UInt8}:putAt ((List.replicate (a+1) (0:UInt8)++t).map u8) a [u8 c]=(List.replicate a (0:UInt8)++c::t).map u8:=by
 unfold putAt
 simp only [List.map_append,List.map_replicate,List.map_cons,List.length_singleton]
 rw [List.take_append_of_le_length (by simp),List.take_replicate,List.drop_append_of_le_length (by simp),List.drop_replicate,Nat.min_eq_left (by omega),Nat.sub_self]
 simp
section
variable {n:Nat}{h:zaa}
end
abbrev RT:Type:=Str × Bool
def rtake (k:Nat) (t:RT):Str × RT:=if t.1.length<k ∨ t.2=true then ([],t.1,true) else (t.1.take k,t.1.drop k,false)
def rnum (w:Nat) (t:RT):Nat × RT:=(zaf (rtake w t).1,(rtake w t).2)
theorem zw8 {n:Nat}(hn:10 ≤ n) {s:Str}(hno:∀ p:Page,p.Ok → p.check=true → p.enc≠s) (h:zaa):C n 162 [.str s] h=some (.ret (.tup [.agg zbr,i64 8]),h):=by
 cases hs:zf8 s with
 | false=>exact zts (by omega) s hs
 | true =>
  obtain ⟨r,e1,e2⟩:=zoy hn hs
  rw [e1]
  unfold DecS at e2
  cases hp:zeu s with
  | none=>rw [hp] at e2;simp only at e2;rw [e2]
  | some x =>
   rw [hp] at e2
   obtain ⟨q,hq,ok,e3⟩:=e2
   rw [if_neg (fun c=>hno q ok c.1 c.2)] at e3
   rw [e3]
abbrev gb (c:UInt32) (i:Nat):Bool:=c.toBitVec.getLsbD i
theorem zl3 {a b:UInt32}(h:∀ i,i<32 → gb a i=gb b i):a=b:=UInt32.toBitVec_inj.1 (BitVec.eq_of_getLsbD_eq h)
theorem zv3 (c:UInt32):(c &&& 1=1) ↔ gb c 0=true:=by
 constructor
 ·intro h
  have:=congrArg (fun x:UInt32=>gb x 0) h
  simpa [gb] using this
 ·intro h
  apply zl3
  intro i hi
  simp only [gb,UInt32.toBitVec_and,BitVec.getLsbD_and]
  by_cases h0:i=0
  ·subst h0;simp [h]
  ·have e1:(1:UInt32).toBitVec=1#32:=rfl
   simp [e1,BitVec.getLsbD_one,h0]
theorem zqu (c:UInt32) (i:Nat) (hi:i<32):gb (bit c) i=((gb c (i+1)) ^^ (gb c 0&&gb 3988292384 i)):=by
 unfold bit
 have e2:(c >>> 1).toBitVec=c.toBitVec >>> 1:=by rfl
 by_cases h:c &&& 1=1
 ·rw [if_pos h]
  have h0:=(zv3 c).1 h
  simp only [gb,UInt32.toBitVec_xor,BitVec.getLsbD_xor,e2,BitVec.getLsbD_ushiftRight] at h0 ⊢
  rw [h0,Nat.add_comm]
  simp
 ·rw [if_neg h]
  have h0:gb c 0=false:=by
   cases hq:gb c 0 with
   | true=>exact (h ((zv3 c).2 hq)).elim
   | false=>rfl
  simp only [gb,e2,BitVec.getLsbD_ushiftRight] at h0 ⊢
  rw [h0,Nat.add_comm]
  simp
theorem z3n (a b:UInt32):bit (a ^^^ b)=bit a ^^^ bit b:=by
 apply zl3
 intro i hi
 have e:gb (bit a ^^^ bit b) i=(gb (bit a) i ^^ gb (bit b) i):=by simp [gb]
 rw [e,zqu _ _ hi,zqu _ _ hi,zqu _ _ hi]
 have e1:∀ j,gb (a ^^^ b) j=(gb a j ^^ gb b j):=fun j=>by simp [gb]
 rw [e1,e1]
 cases gb a (i+1)<;>cases gb b (i+1)<;>cases gb a 0<;>cases gb b 0<;>cases gb 3988292384 i<;>rfl
theorem zsc:∀ (k:Nat) (a b:UInt32),bits k (a ^^^ b)=bits k a ^^^ bits k b
 | 0,a,b=>rfl
 | k+1,a,b=>by show bits k (bit (a ^^^ b))=bits k (bit a) ^^^ bits k (bit b);rw [z3n,zsc k]
theorem z0t {c:UInt32}{w:Nat}(h:c.toNat=2*w):(bit c).toNat=w:=by
 have h1:(c &&& 1).toNat=c.toNat % 2:=by
  rw [UInt32.toNat_and];exact Nat.and_one_is_mod _
 unfold bit
 rw [if_neg (by intro q;have:=congrArg UInt32.toNat q;rw [h1] at this;simp at this;omega)]
 rw [UInt32.toNat_shiftRight]
 show c.toNat >>> 1=w
 rw [Nat.shiftRight_eq_div_pow];omega
theorem zo7:∀ (k:Nat) {c:UInt32}{w:Nat},c.toNat=2 ^ k*w → (bits k c).toNat=w
 | 0,c,w,h=>by simpa [bits] using h
 | k+1,c,w,h=>zo7 k (c:=bit c) (z0t (by rw [h,Nat.pow_succ];rw [Nat.mul_comm (2 ^ k) 2,Nat.mul_assoc]))
theorem zua (c:UInt32):tab c.toUInt8 ^^^ (c >>> 8)=bits 8 c:=by
 have hc:c=c.toUInt8.toUInt32 ^^^ ((c >>> 8) <<< 8):=by
  apply zl3
  intro i hi
  have e1:((c >>> 8) <<< 8).toBitVec=(c.toBitVec >>> 8) <<< 8:=rfl
  have e2:c.toUInt8.toUInt32.toBitVec=(c.toBitVec.setWidth 8).setWidth 32:=rfl
  simp only [gb,UInt32.toBitVec_xor,BitVec.getLsbD_xor,e1,e2,BitVec.getLsbD_shiftLeft,BitVec.getLsbD_ushiftRight,BitVec.getLsbD_setWidth]
  by_cases h8:i<8
  ·simp [h8,hi]
  ·have:8+(i-8)=i:=by omega
   simp [h8,hi,this]
 have h1:(bits 8 ((c >>> 8) <<< 8)).toNat=(c >>> 8).toNat:=by
  refine zo7 8 ?_
  rw [UInt32.toNat_shiftLeft,UInt32.toNat_shiftRight]
  show (c.toNat >>> 8) <<< 8 % 2 ^ 32=2 ^ 8*(c.toNat >>> 8)
  have:=c.toNat_lt
  rw [Nat.shiftRight_eq_div_pow,Nat.shiftLeft_eq]
  omega
 have h2:bits 8 ((c >>> 8) <<< 8)=c >>> 8:=UInt32.toNat_inj.1 h1
 conv=>rhs;rw [hc,zsc,h2]
 rfl
theorem zxj (c:UInt32) (b:UInt8):tab (c.toUInt8 ^^^ b) ^^^ (c >>> 8)=bits 8 (c ^^^ b.toUInt32):=by
 rw [← zua]
 have e1:(c ^^^ b.toUInt32).toUInt8=c.toUInt8 ^^^ b:=by
  apply UInt8.toBitVec_inj.1
  apply BitVec.eq_of_getLsbD_eq
  intro i hi
  have e3:(c ^^^ b.toUInt32).toUInt8.toBitVec=(c.toBitVec ^^^ b.toBitVec.setWidth 32).setWidth 8:=rfl
  have e4:(c.toUInt8 ^^^ b).toBitVec=c.toBitVec.setWidth 8 ^^^ b.toBitVec:=rfl
  rw [e3,e4]
  simp [hi]
 have e2:(c ^^^ b.toUInt32) >>> 8=c >>> 8:=by
  apply zl3
  intro i hi
  have e5:((c ^^^ b.toUInt32) >>> 8).toBitVec=(c.toBitVec ^^^ b.toBitVec.setWidth 32) >>> 8:=rfl
  have e6:(c >>> 8).toBitVec=c.toBitVec >>> 8:=rfl
  simp only [gb,e5,e6,BitVec.getLsbD_ushiftRight,BitVec.getLsbD_xor,BitVec.getLsbD_setWidth]
  rw [BitVec.getLsbD_of_ge b.toBitVec (8+i) (by omega)]
  simp
 rw [e1,e2]
theorem z0g (b:UInt8) (r:Str) (c:UInt32):ext (b::r) c=ext r (bits 8 (c ^^^ b.toUInt32)):=by
 unfold ext
 rw [List.foldl_cons,zxj]
theorem z3d (a b:Str) (c:UInt32):ext (a++b) c=ext b (ext a c):=by unfold ext;rw [List.foldl_append]
def le:Str → UInt32
 | []=>0
 | b::r=>b.toUInt32 ^^^ (le r <<< 8)
theorem z2q (c:UInt32):((c.toNat:Int)).tmod ((2:UInt32).toNat:Int)=((c &&& 1).toNat:Int):=by
 have h1:(c &&& 1).toNat=c.toNat % 2:=by
  rw [UInt32.toNat_and];exact Nat.and_one_is_mod _
 rw [h1]
 rfl
theorem zsl (b:UInt8):IntKind.u32.wrap ((b.toNat:Nat):Int)=((b.toUInt32).toNat:Int):=by
 have h:=b.toNat_lt
 rw [UInt8.toNat_toUInt32]
 show (if (IntKind.u32.signed&&decide ((b.toNat:Int) % (2 ^ 32:Int)≥(2 ^ (32-1):Int)))=true then (b.toNat:Int) % (2 ^ 32:Int)-2 ^ 32 else (b.toNat:Int) % (2 ^ 32:Int))=_
 rw [if_neg (by simp [IntKind.signed])]
 omega
section
variable {n:Nat}{h:zaa}
theorem z1s (hn:1 ≤ n) (c:UInt32):C n 189 [u32 c] h=some (.ret (u32 (bit c)),h):=by
 obtain ⟨m,rfl⟩:=pre1 n
 refine zak F189 rfl rfl rfl rfl ?_
 conv=>whnf
 refine remI (by decide) (z2q c) ?_
 have e1:=@z01 (c &&& 1) 1
 conv=>whnf
 refine br (fun a=>?_) (fun a=>?_)
 ·have a':c &&& 1=1:=by simpa [e1] using e1.symm.trans a
  conv=>whnf
  refine ⟨by decide,_,zi0 c 1 (by decide),?_⟩
  conv=>whnf
  refine zI (zl1 _ 3988292384) ?_
  conv=>whnf
  exact retP rfl (zbw (by simp [bit,a']))
 ·have a':¬ c &&& 1=1:=by simpa [e1] using e1.symm.trans a
  conv=>whnf
  refine ⟨by decide,_,zi0 c 1 (by decide),?_⟩
  conv=>whnf
  exact retP rfl (zbw (by simp [bit,a']))
theorem z14 (hn:2 ≤ n) (s:Str) (hs:s.length<1099511627776) (c:UInt32):C n 136 [u32 c,.str s] h=some (.ret (u32 (~~~(ext s (~~~c)))),h):=by
 obtain ⟨m,rfl⟩:=pre1 n
 refine zak F136 rfl rfl rfl rfl ?_
 conv=>whnf
 refine zI (zmi c) ?_
 conv=>whnf
 refine za7 (by decide) rfl (α:=Nat × UInt32) (fun x=>⟨[(1,.str s),(5,u32 x.2),(6,i64 x.1)],[],[]⟩) (fun x=>x.1 ≤ s.length ∧ x.2=ext (s.take x.1) (~~~c)) (fun x=>s.length-x.1) (0,~~~c) ⟨⟨rfl,rfl,rfl⟩,rfl,rfl⟩ (by simp [ext]) (by show s.length-0<KK;simp only [KK];omega) ?_
 rintro ⟨x,d⟩ ⟨hx,hc⟩
 simp only at hx hc
 conv=>whnf
 refine brd (fun a=>?_) (fun a=>?_)
 ·simp only at a
  have hx':x<s.length:=by omega
  have hst:bits 8 (d ^^^ s[x].toUInt32)=ext (s.take (x+1)) (~~~c):=by
   subst hc
   rw [List.take_succ_eq_append_getElem hx',z3d,z0g]
   rfl
  conv=>whnf
  refine strI (b:=s[x]) (by omega) (by rw [Int.toNat_natCast];exact List.getElem?_eq_getElem hx') ?_
  conv=>whnf
  refine zI (zsl s[x]) ?_
  conv=>whnf
  refine zI (zl1 d s[x].toUInt32) ?_
  conv=>whnf
  refine za7 (by decide) rfl (α:=Nat) (fun k=>⟨[(1,.str s),(5,u32 (bits k (d ^^^ s[x].toUInt32))),(6,i64 x),(7,i64 k)],[],[]⟩) (fun k=>k ≤ 8) (fun k=>8-k) 0 ⟨⟨rfl,rfl,rfl,rfl⟩,rfl,rfl⟩ (by omega) (by decide) ?_
  intro k hk
  conv=>whnf
  refine brd (fun b=>?_) (fun b=>?_)
  ·conv=>whnf
   refine clI (z1s (by omega) _) ?_
   conv=>whnf
   refine zI (z:=((k+1:Nat):Int)) (by rw [zad (by omega) (by omega)];rfl) ?_
   exact nxI (k+1) (by omega) (by omega) ⟨⟨rfl,by rw [zj6];rfl,rfl,rfl⟩,rfl,rfl⟩
  ·have:k=8:=by omega
   subst this
   rw [hst]
   conv=>whnf
   refine cutI (by decide) rfl (t:=⟨[(1,.str s),(5,u32 (ext (s.take (x+1)) (~~~c))),(6,i64 x)],[],[]⟩) ⟨⟨rfl,rfl,rfl⟩,rfl,rfl⟩ ?_
   conv=>whnf
   refine zI (z:=((x+1:Nat):Int)) (by rw [zad (by omega) (by omega)];rfl) ?_
   exact nxI (x+1,ext (s.take (x+1)) (~~~c)) ⟨hx',rfl⟩ (by simp only;omega) ⟨⟨rfl,rfl,rfl⟩,rfl,rfl⟩
 ·simp only at a
  have:x=s.length:=by omega
  subst this
  rw [List.take_length] at hc
  subst hc
  conv=>whnf
  refine cutI (by decide) rfl (t:=⟨[(5,u32 (ext s (~~~c)))],[],[]⟩) ⟨rfl,rfl,rfl⟩ ?_
  conv=>whnf
  refine zI (zmi _) ?_
  conv=>whnf
  exact retP rfl (zbw rfl)
theorem z2b (hn:3 ≤ n) (s:Str) (hs:s.length<1099511627776):C n 63 [.str s] h=some (.ret (u32 (crc s)),h):=by
 obtain ⟨m,rfl⟩:=pre1 n
 refine zak F63 rfl rfl rfl rfl ?_
 conv=>whnf
 refine clI (z14 (by omega) s hs 0) ?_
 conv=>whnf
 exact retP rfl (zbw rfl)
theorem z3h {k j:Nat}:((k / 256 ^ j:Nat):Int).tdiv 256=((k / 256 ^ (j+1):Nat):Int):=by
 rw [Int.tdiv_eq_ediv_of_nonneg (Int.natCast_nonneg _),Nat.pow_succ,← Nat.div_div_eq_div_mul]
 rfl
theorem z0q (x:Nat):IntKind.u8.wrap ((x % 256:Nat):Int)=((UInt8.ofNat x).toNat:Int):=by
 rw [UInt8.toNat_ofNat']
 show (if (IntKind.u8.signed&&decide (((x % 256:Nat):Int) % (2 ^ 8:Int)≥(2 ^ (8-1):Int)))=true then ((x % 256:Nat):Int) % (2 ^ 8:Int)-2 ^ 8 else ((x % 256:Nat):Int) % (2 ^ 8:Int))=_
 rw [if_neg (by simp [IntKind.signed])]
 omega
theorem znx (hn:1 ≤ n) (k w:Nat) (hw:w ≤ 8) (hk:k<9223372036854775808):C n 61 [i64 k,i64 w] h=some (.ret (.str (num k w)),h):=by
 obtain ⟨m,rfl⟩:=pre1 n
 refine zak F61 rfl rfl rfl rfl ?_
 conv=>whnf
 refine ⟨by omega,by omega,by omega,?_⟩
 conv=>whnf
 refine zI (z:=(w:Int)-1) (zad (by omega) (by omega)) ?_
 conv=>whnf
 have hrep:∀ w,rep w [AV.int .u8 0]=(List.replicate w (0:UInt8)).map u8:=fun w=>by
  induction w with
  | zero=>rfl
  | succ w ih=>rw [List.replicate_succ,List.map_cons,← ih];rfl
 refine za7 (by decide) rfl (α:=Nat) (fun j=>⟨[(0,i64 ((k / 256 ^ j:Nat))),(5,.sl 1 0 0 0 w),(6,i64 ((w:Int)-1-j))],[.cells 0 (some 5) ((List.replicate (w-j) (0:UInt8)++num k j).map u8) 0],[]⟩) (fun j=>j ≤ w) (fun j=>w-j) 0 ?_ (Nat.zero_le _) (by show w-0<KK;simp only [KK];omega) ?_
 ·refine ⟨⟨by rw [Nat.pow_zero,Nat.div_one];rfl,rfl,by rw [show (w:Int)-1-((0:Nat):Int)=(w:Int)-1 by omega];rfl⟩,?_,rfl⟩
  show []++[AB.cells 0 (some 5) (rep ((w:Int)).toNat [AV.int IntKind.u8 0]) 0]=_
  rw [Int.toNat_natCast,hrep]
  simp [num]
 ·intro j hj
  conv=>whnf
  refine brd (fun a=>?_) (fun a=>?_)
  ·have hjw:j<w:=by omega
   conv=>whnf
   refine remI (by decide) (z:=((k / 256 ^ j % 256:Nat):Int)) rfl ?_
   conv=>whnf
   refine zI (z:=((UInt8.ofNat (k / 256 ^ j)).toNat:Int)) (z0q _) ?_
   conv=>whnf
   refine ⟨by omega,by omega,rfl,?_⟩
   conv=>whnf
   have hi:0+((w:Int)-1-j).toNat*1=w-j-1:=by omega
   refine stI (cs:=(List.replicate (w-j) (0:UInt8)++num k j).map u8) (xs:=[u8 (UInt8.ofNat (k / 256 ^ j))]) (by rfl) (by rfl) (by rfl) (by rw [Nat.ble_eq,hi];simp [zal];omega) (by rfl) ?_
   conv=>whnf
   have hput:putAt ((List.replicate (w-j) (0:UInt8)++num k j).map u8) (0+((w:Int)-1-j).toNat*1) [u8 (UInt8.ofNat (k / 256 ^ j))]=(List.replicate (w-(j+1)) (0:UInt8)++num k (j+1)).map u8:=by
    rw [hi,show w-j=(w-j-1)+1 by omega,show w-j-1+1-1=w-j-1 by omega,z2f,show w-(j+1)=w-j-1 by omega]
    rfl
   have hle:k / 256 ^ (j+1) ≤ k:=Nat.div_le_self _ _
   refine ⟨by decide,((k / 256 ^ (j+1):Nat):Int),by rw [z3h];exact zad (Int.le_trans (by decide) (Int.natCast_nonneg _)) (Int.lt_of_le_of_lt (Int.ofNat_le.2 hle) (by omega)),?_⟩
   conv=>whnf
   refine zI (z:=(w:Int)-1-((j+1:Nat):Int)) (by rw [zad (by omega) (by omega)];omega) ?_
   exact nxI (j+1) hjw (by omega) ⟨⟨rfl,rfl,rfl⟩,congrArg (fun x=>[AB.cells 0 (some 5) x 0]) hput,rfl⟩
  ·have:j=w:=by omega
   subst this
   have hf:=zmv (h:=[AB.cells 0 (some 5) ((List.replicate (j-j) (0:UInt8)++num k j).map u8) 0]) (bb:=0) (ver:=0) (el:=some 5) (s:=num k j) (frz:=0) (by rw [Nat.sub_self];rfl)
   rw [zal] at hf
   conv=>whnf
   refine cutI (by decide) rfl (t:=⟨[(5,.sl 1 0 0 0 j)],[AB.cells 0 (some 5) ((List.replicate (j-j) (0:UInt8)++num k j).map u8) 0],[]⟩) ⟨rfl,rfl,rfl⟩ ?_
   conv=>whnf
   refine ⟨_,num k j,hf,zbx _,?_⟩
   conv=>whnf
   exact retP rfl (zht rfl)
end
abbrev tRec:Nat:=127
def recB (hp:zaa) (b:Nat) (xs:Str):Prop:=hp[b]?=some (.cells 0 (some tRec) (xs.map u8) 0) ∧ xs.length=64
abbrev recC (xs:Str):AB:=.cells 0 (some tRec) (xs.map u8) 0
theorem zu4 {hp:zaa}{b:Nat}{x:AB}(h:hp[b]?=some x):hp.set b x=hp:=by
 apply List.ext_getElem?
 intro i
 rw [List.getElem?_set]
 split
 ·rename_i e
  subst e
  rw [if_pos (zac h)]
  exact h.symm
 ·rfl
def lay (xs:Str) (at':Nat) (ys:Str):Str:=xs.take at'++ys++xs.drop (at'+ys.length)
theorem zeg {xs:Str}{at':Nat}{ys:Str}(h:at'+ys.length ≤ xs.length):(lay xs at' ys).length=xs.length:=by
 unfold lay
 simp only [List.length_append,List.length_take,List.length_drop]
 omega
theorem z2x {xs:Str}{p:Nat}{c:UInt8}:putAt (xs.map u8) p [u8 c]=(lay xs p [c]).map u8:=by
 unfold putAt lay
 simp [List.map_take,List.map_drop]
theorem zzy {xs:Str}{p w:Nat}{c:UInt8}{t:Str}(ht:p+1+t.length=w) (hw:w ≤ xs.length):lay (xs.take (p+1)++t++xs.drop w) p [c]=xs.take p++(c::t)++xs.drop w:=by
 unfold lay
 have h1:(xs.take (p+1)).length=p+1:=by rw [List.length_take];omega
 rw [List.append_assoc (xs.take (p+1)),List.take_append_of_le_length (by omega),List.take_take,Nat.min_eq_left (by omega),List.length_singleton,List.drop_append_of_le_length (by omega),List.drop_of_length_le (l:=xs.take (p+1)) (by omega)]
 simp
section
variable {n:Nat}
theorem put_eq (hn:1 ≤ n) {hp:zaa}{b:Nat}{xs:Str}(hb:recB hp b xs) (at' w k:Nat) (hw:w ≤ 8) (haw:at'+w ≤ 64):C n 134 [.ptr b 0 0,i64 at',i64 w,i64 k] hp=some (.ret (.tup []),hp.set b (recC (lay xs at' (num k w)))):=by
 obtain ⟨m,rfl⟩:=pre1 n
 obtain ⟨hb1,hx⟩:=hb
 have hlt:=zac hb1
 refine za2 F134 rfl rfl ?_
 conv=>whnf
 refine za7 (by decide) rfl (α:=Nat) (fun j=>⟨[(0,.ptr b 0 0),(1,i64 at'),(2,i64 w),(3,i64 k),(9,i64 w),(10,i64 j)],hp.set b (recC (xs.take (at'+w-j)++num k j++xs.drop (at'+w))),[]⟩) (fun j=>j ≤ w) (fun j=>w-j) 0 ⟨⟨rfl,rfl,rfl,rfl,rfl,rfl⟩,?_,rfl⟩ (Nat.zero_le _) (by simp only [KK];omega) ?_
 ·show hp=hp.set b (recC (xs.take (at'+w-0)++num k 0++xs.drop (at'+w)))
  rw [show xs.take (at'+w-0)++num k 0++xs.drop (at'+w)=xs by simp [num],zu4 hb1]
 intro j hj
 conv=>whnf
 refine brd (fun a=>?_) (fun a=>?_)
 ·have hjw:j<w:=by omega
  obtain ⟨p,hp'⟩ : ∃ p,at'+w-j=p+1:=⟨at'+w-j-1,by omega⟩
  have hpl:p<64:=by omega
  conv=>whnf
  refine zI (z:=((at'+w:Nat):Int)) (by rw [zad (by omega) (by omega)];omega) ?_
  conv=>whnf
  refine zI (z:=((at'+w:Nat):Int)-1) (zad (by omega) (by omega)) ?_
  conv=>whnf
  refine zI (z:=(p:Int)) (by rw [zad (by omega) (by omega)];omega) ?_
  conv=>whnf
  refine zI (z:=8*(j:Int)) (zad (by omega) (by omega)) ?_
  conv=>whnf
  refine ⟨by omega,_,rfl,?_⟩
  conv=>whnf
  refine zI (zxk (k:=k) (i:=j) (by omega)) ?_
  conv=>whnf
  refine ⟨by omega,by omega,?_⟩
  conv=>whnf
  refine stI (List.getElem?_set_self hlt) (xs:=[u8 (UInt8.ofNat (k / 256 ^ j))]) (by rfl) (by rfl) (by rw [Nat.ble_eq,List.length_map];simp only [List.length_append,List.length_take,List.length_drop,zal,List.length_cons,List.length_nil];omega) (by rfl) ?_
  conv=>whnf
  refine zJ j ?_
  refine nxI (j+1) hjw (by omega) ⟨⟨rfl,rfl,rfl,rfl,rfl,rfl⟩,?_,rfl⟩
  have e:at'+w-(j+1)=p:=by omega
  show List.set (List.set hp b _) b (AB.cells 0 (some tRec) (putAt ((xs.take (at'+w-j)++num k j++xs.drop (at'+w)).map u8) (0+((p:Nat):Int).toNat*1) [u8 (UInt8.ofNat (k / 256 ^ j))]) 0)=hp.set b (recC (xs.take (at'+w-(j+1))++num k (j+1)++xs.drop (at'+w)))
  rw [List.set_set,e,hp',Int.toNat_natCast,Nat.mul_one,Nat.zero_add,z2x,zzy (w:=at'+w) (by rw [zal];omega) (by omega)]
  rfl
 ·have hjw:j=w:=by omega
  subst hjw
  conv=>whnf
  refine ⟨rfl,[],rfl,rfl,?_⟩
  show hp.set b (recC (xs.take (at'+j-j)++num k j++xs.drop (at'+j)))=_
  unfold lay
  rw [zal,Nat.add_sub_cancel]
theorem zoe (hn:1 ≤ n) {hp:zaa}{b:Nat}{xs:Str}(hb:recB hp b xs) (at' w:Nat) (hw:w ≤ 6) (hw0:0<w) (haw:at'+w ≤ 64):C n 65 [.ptr b 0 0,i64 at',i64 w] hp=some (.ret (i64 (zaf ((xs.drop at').take w))),hp):=by
 obtain ⟨m,rfl⟩:=pre1 n
 obtain ⟨hb1,hx⟩:=hb
 have hlt:=zac hb1
 have hlen:((xs.drop at').take w).length=w:=by rw [List.length_take,List.length_drop];omega
 refine za2 F65 rfl rfl ?_
 conv=>whnf
 refine zI (z:=((at'+w:Nat):Int)) (by rw [zad (by omega) (by omega)];omega) ?_
 conv=>whnf
 refine ⟨_,_,_,hb1,⟨by rw [List.length_map,hx];decide,by decide⟩,?_⟩
 have hsl:zbm 1 (.sl 1 b 0 0 64) (some ((at':Nat):Int)) (some ((at'+w:Nat):Int)) none=some (.sl 1 b 0 at' w):=by
  unfold zbm
  simp only [Option.getD_some]
  rw [if_pos ⟨by omega,by omega,by omega,trivial⟩,if_neg (by omega),show 0+((at':Nat):Int).toNat*1=at' by omega,show (((at'+w:Nat):Int)-((at':Nat):Int)).toNat=w by omega]
 refine slI hsl ?_
 conv=>whnf
 refine za7 (by decide) rfl (α:=Nat) (fun j=>⟨[(7,i64 (zaf (((xs.drop at').take w).take j))),(16,.sl 1 b 0 at' w),(17,i64 w),(18,i64 j)],hp,[]⟩) (fun j=>j ≤ w) (fun j=>w-j) 0 ⟨⟨rfl,rfl,rfl,rfl⟩,rfl,rfl⟩ (Nat.zero_le _) (by simp only [KK];omega) ?_
 intro j hj
 conv=>whnf
 refine brd (fun a=>?_) (fun a=>?_)
 ·have hjw:j<w:=by omega
  have hjt:j<((xs.drop at').take w).length:=by omega
  have hb:=zb6 j (((xs.drop at').take w).take j) (by rw [List.length_take];omega)
  have hb2:256 ^ j ≤ 256 ^ 5:=Nat.pow_le_pow_right (by decide) (by omega)
  have hst:zaf (((xs.drop at').take w).take j)*256+(((xs.drop at').take w)[j]).toNat=zaf (((xs.drop at').take w).take (j+1)):=by
   rw [List.take_succ_eq_append_getElem hjt,zgp]
  have hx6:zaf (((xs.drop at').take w).take j)<36028797018963968:=by
   have:(256:Nat) ^ 5=1099511627776:=by decide
   omega
  have hcell:(xs.map u8)[at'+j]?=some (u8 (((xs.drop at').take w)[j])):=by
   rw [List.getElem?_map,List.getElem?_eq_getElem (by omega)]
   simp
  conv=>whnf
  refine ⟨by omega,by omega,rfl,?_⟩
  conv=>whnf
  refine ldI hb1 ?_
  refine zdp (v:=u8 (((xs.drop at').take w)[j])) (by show (xs.map u8)[at'+(j:Int).toNat*1]?=_;rw [Int.toNat_natCast,Nat.mul_one];exact hcell) ?_
  conv=>whnf
  refine ⟨by decide,_,zrb _ hx6,?_⟩
  conv=>whnf
  refine zI (z:=((((xs.drop at').take w)[j]).toNat:Int)) (by have:=(((xs.drop at').take w)[j]).toNat_lt;exact zad (by omega) (by omega)) ?_
  conv=>whnf
  refine zI (zvt _ _ hx6) ?_
  conv=>whnf
  refine zJ j ?_
  exact nxI (j+1) hjw (by omega) ⟨⟨by rw [← hst];rfl,rfl,rfl,rfl⟩,rfl,rfl⟩
 ·have hjw:j=w:=by omega
  subst hjw
  conv=>whnf
  refine cutI (by decide) rfl (t:=⟨[(7,i64 (zaf (((xs.drop at').take j))))],hp,[]⟩) ⟨by show some (i64 (zaf (((xs.drop at').take j).take j)))=_;rw [List.take_take,Nat.min_self],rfl,rfl⟩ ?_
  exact ⟨rfl,[i64 (zaf ((xs.drop at').take j))],rfl,rfl,rfl⟩
end
def c60:RC :=
 (.seq (.ops [(oP 1 (.box 27 (.t 0))),(oP 2 (.mv (.c (.bool false))))])
 (.seq (.seq (.ops [(oC 3 0 1),(oA 4 3),(oJ 5 .lss 4 0),(mV 6 5),(oF 7 6 false 0 1),(oD 8 6 false 7),(oG 9 6 false (.bin .gtr (.t 8) (.c (.int .i64 1099511627776)))),(oM 10 6 9),(mV 11 10),(oF 12 11 false 20 1),(oD 13 11 false 12),(oG 14 11 false (.bin .lss (.t 13) (.c (.int .i64 2)))),(oM 15 11 14),(mV 16 15),(oF 17 16 false 20 1),(oD 18 16 false 17),(oG 19 16 false (.bin .gtr (.t 18) (.c (.int .i64 4096)))),(oM 20 16 19),(mV 21 20),(oF 22 21 false 19 1),(oD 23 21 false 22),(oG 24 21 false (.bin .neq (.t 23) (.c (.int .i64 0)))),(oE 25 21 false 24),(oF 26 25 true 19 1),(oD 27 25 true 26),(oF 28 25 true 20 1),(oD 29 25 true 28),(oG 30 25 true (.callF 101 [(.t 27),(.t 29)])),(oG 31 25 true (.un .not (.t 30))),(oG 32 21 false (.pick (.t 25) (.t 31) (.c (.bool false)))),(oM 33 21 32)])
 (.cond (.t 33)
 (.seq (.ops [(oP 2 (.mv (.c (.bool false))))])
 .ret)
 .skip))
 (.seq (.seq (.ops [(oC 34 1 1),(oB 35 18 34),(oP 36 (.build [(.int .i64 0),(.int .i64 0),(.int .u8 0),(.int .u8 0),(.int .u8 0),(.int .u8 0),(.int .u8 0),(.int .u8 0),(.int .u8 0),(.int .u8 0),(.int .u8 0),(.int .u8 0),(.int .u8 0),(.int .u8 0),(.int .u8 0),(.int .u8 0),(.int .u8 0),(.int .u8 0)] [])),(oP 37 (.cmp false 25 (.t 35) (.t 36)))])
 (.cond (.t 37)
 (.seq (.ops [(oP 2 (.mv (.c (.bool true))))])
 .ret)
 .skip))
 (.seq (.ops [(oC 38 1 1),(oC 39 0 38),(oA 40 39),(oC 41 20 1),(oA 42 41),(oW 43 101 40 42),(mV 44 43),(oF 45 44 true 1 1),(oF 46 44 true 1 45),(oD 47 44 true 46),(oG 48 44 true (.bin .geq (.t 47) (.c (.int .i64 1)))),(oN 49 44 48),(mV 50 49),(oF 51 50 true 1 1),(oF 52 50 true 1 51),(oD 53 50 true 52),(oG 54 50 true (.bin .leq (.t 53) (.c (.int .i64 2147483647)))),(oN 55 50 54),(mV 2 55)])
 .ret))))
theorem F60:FI 60 1 56 6 [.tmp 2] c60:=mkF Tryz.f60 Tryz.func60
def c101:RC :=
 (.seq (.ops [(oP 4 (.mv (.c (.bool false))))])
 (.seq (.ops [(mV 5 0),(oJ 6 .geq 5 2),(mV 7 6),(oE 8 7 true 0),(oE 9 7 true 1),(oG 10 7 true (.bin .lss (.t 8) (.t 9))),(oN 11 7 10),(mV 4 11)])
 .ret))
theorem F101:FI 101 2 12 4 [.tmp 4] c101:=mkF Tryz.f101 Tryz.func101
def c62:RC :=
 (.seq (.ops [(oP 2 (.mv (.c (.str []))))])
 (.seq (.ops [(mV 3 0),(oP 4 (.mkSl 5 1 [(.int .u8 0)] (.t 3) (.t 3))),(oP 5 (.bytesStr (.t 4))),(mV 2 5)])
 .ret))
theorem F62:FI 62 1 6 3 [.tmp 2] c62:=mkF Tryz.f62 Tryz.func62
def c66:RC :=
 (.seq (.ops [(oH 2 0)])
 (.seq (.ops [(oH 3 0)])
 (.seq (.seq (.ops [(oH 4 0)])
 (.block 0
 (.loop
 (.seq (.seq (.ops [(mV 5 4),(mV 6 0),(oP 7 (.lenS (.t 6))),(oI 8 .lss 5 7)])
 (.cond (.t 8)
 .skip
 (.exit 0)))
 (.seq (.block 1
 (.ops [(mV 11 3),(oJ 12 .mul 11 256),(mV 13 0),(mV 14 4),(oP 15 (.indexS (.t 13) (.t 14))),(oP 16 (.toInt .i64 (.t 15))),(oI 17 .add 12 16),(mV 3 17)]))
 (.ops [(mV 9 4),(oJ 10 .add 9 1),(mV 4 10)]))))))
 (.cut (.seq (.ops [(mV 18 3),(mV 2 18)])
 .ret)))))
theorem F66:FI 66 1 19 5 [.tmp 2] c66:=mkF Tryz.f66 Tryz.func66
def c16:RC :=
 (.seq (.ops [(oP 1 (.box 27 (.t 0))),(oP 2 (.alloc 33 [(.str []),(.int .i64 0)]))])
 (.seq (.seq (.ops [(oB 6 21 1),(oV 7 60 6),(oP 8 (.un .not (.t 7)))])
 (.cond (.t 8)
 (.seq (.ops [(oP 9 (.build [(.str []),(.int .i64 0)] [(1,1,(.c (.int .i64 2)))])),(oT 2 2 9)])
 .ret)
 .skip))
 (.seq (.ops [(oP 3 (.mv (.c (.str []))))])
 (.seq (.seq (.ops [(oH 4 0)])
 (.block 0
 (.loop
 (.seq (.seq (.ops [(mV 10 4),(oJ 11 .lss 10 16)])
 (.cond (.t 11)
 .skip
 (.exit 0)))
 (.seq (.block 1
 (.ops [(mV 14 3),(mV 15 4),(oC 16 1 1),(oC 17 2 16),(oP 18 (.indexAddrA 16 1 (.t 17) (.t 15))),(oA 19 18),(oP 20 (.mkLst 1 false 1 [(.int .u8 0)] [(0,1,(.t 19))])),(oP 21 (.bytesStr (.t 20))),(oI 22 .add 14 21),(mV 3 22)]))
 (.ops [(mV 12 4),(oJ 13 .add 12 1),(mV 4 13)]))))))
 (.cut (.seq (.draw [((oC 23 0 1),0),((oA 24 23),1),((oP 25 (.callF 61 [(.t 24),(.c (.int .i64 6))])),0),((oP 26 (.bin .add (.c (.str [82])) (.t 25))),0),((oC 27 1 1),0),((oC 28 0 27),0),((oA 29 28),1),((oP 30 (.callF 61 [(.t 29),(.c (.int .i64 4))])),0),((oI 31 .add 26 30),0),((oC 32 1 1),0),((oC 33 1 32),0),((oA 34 33),1),((oP 35 (.callF 61 [(.t 34),(.c (.int .i64 4))])),0),((oI 36 .add 31 35),0),((mV 37 3),0),((oI 38 .add 36 37),0),((oC 39 19 1),0),((oA 40 39),1),((oP 41 (.callF 61 [(.t 40),(.c (.int .i64 4))])),0),((oI 42 .add 38 41),0),((oC 43 20 1),0),((oA 44 43),1),((oP 45 (.callF 61 [(.t 44),(.c (.int .i64 4))])),4),((oI 46 .add 42 45),0),((oP 47 (.callF 62 [(.c (.int .i64 20))])),4),((oI 48 .add 46 47),0),((mV 5 48),0)])
 (.seq (.ops [(mV 49 5),(mV 50 5),(oV 51 63 50),(oP 52 (.toInt .i64 (.t 51))),(oP 53 (.callF 61 [(.t 52),(.c (.int .i64 4))])),(oI 54 .add 49 53),(oP 55 (.bin .add (.t 54) (.c (.str [82])))),(oP 56 (.build [(.str []),(.int .i64 0)] [(0,1,(.t 55))])),(oT 2 2 56)])
 .ret)))))))
theorem F16:FI 16 1 57 6 [.cell 2 33] c16:=mkF Tryz.f16 Tryz.func16
def c18:RC :=
 (.seq (.ops [(oP 2 (.alloc 38 zRm))])
 (.seq (.seq (.ops [(mV 6 0),(oP 7 (.lenS (.t 6))),(oJ 8 .neq 7 64)])
 (.cond (.t 8)
 (.seq (.ops [(oP 9 (.build zRm [(21,1,(.c (.int .i64 8)))])),(oT 22 2 9)])
 .ret)
 .skip))
 (.seq (.draw [((mV 10 0),0),((oP 11 (.sliceS (.t 10) (some (.c (.int .i64 1))) (some (.c (.int .i64 7))))),1),((oV 12 66 11),0),((mV 13 0),0),((oP 14 (.sliceS (.t 13) (some (.c (.int .i64 7))) (some (.c (.int .i64 11))))),1),((oV 15 66 14),0),((mV 16 0),0),((oP 17 (.sliceS (.t 16) (some (.c (.int .i64 11))) (some (.c (.int .i64 15))))),1),((oV 18 66 17),0),((oP 19 (.build [(.int .i64 0),(.int .i64 0),(.int .u8 0),(.int .u8 0),(.int .u8 0),(.int .u8 0),(.int .u8 0),(.int .u8 0),(.int .u8 0),(.int .u8 0),(.int .u8 0),(.int .u8 0),(.int .u8 0),(.int .u8 0),(.int .u8 0),(.int .u8 0),(.int .u8 0),(.int .u8 0)] [(0,1,(.t 15)),(1,1,(.t 18))])),0),((mV 20 0),0),((oP 21 (.sliceS (.t 20) (some (.c (.int .i64 31))) (some (.c (.int .i64 35))))),1),((oV 22 66 21),0),((mV 23 0),0),((oP 24 (.sliceS (.t 23) (some (.c (.int .i64 35))) (some (.c (.int .i64 39))))),1),((oV 25 66 24),0),((oP 26 (.build zRl [(0,1,(.t 12)),(1,18,(.t 19)),(19,1,(.t 22)),(20,1,(.t 25))])),0),((oP 3 (.alloc 27 zRl)),2),((oT 21 3 26),3)])
 (.seq (.seq (.ops [(oH 4 0)])
 (.block 0
 (.loop
 (.seq (.seq (.ops [(mV 27 4),(oJ 28 .lss 27 16)])
 (.cond (.t 28)
 .skip
 (.exit 0)))
 (.seq (.block 1
 (.ops [(mV 31 4),(mV 32 0),(mV 33 4),(oP 34 (.bin .add (.c (.int .i64 15)) (.t 33))),(oP 35 (.indexS (.t 32) (.t 34))),(oC 36 1 3),(oC 37 2 36),(oP 38 (.indexAddrA 16 1 (.t 37) (.t 31))),(oT 1 38 35)]))
 (.ops [(mV 29 4),(oJ 30 .add 29 1),(mV 4 30)]))))))
 (.cut (.seq (.ops [(oB 39 21 3),(oV 40 16 39),(oP 5 (.alloc 33 [(.str []),(.int .i64 0)])),(oT 2 5 40)])
 (.seq (.seq (.ops [(oC 41 1 5),(oA 42 41),(oJ 43 .neq 42 0),(mV 44 43),(oF 45 44 false 0 5),(oD 46 44 false 45),(oE 47 44 false 0),(oG 48 44 false (.bin .neq (.t 46) (.t 47))),(oM 49 44 48)])
 (.cond (.t 49)
 (.seq (.ops [(oP 50 (.build zRm [(21,1,(.c (.int .i64 8)))])),(oT 22 2 50)])
 .ret)
 .skip))
 (.seq (.ops [(oB 51 21 3),(oP 52 (.build zRm [(0,21,(.t 51))])),(oT 22 2 52)])
 .ret))))))))
theorem F18:FI 18 1 53 6 [.cell 2 38] c18:=mkF Tryz.f18 Tryz.func18
def c3:RC :=
 (.seq (.ops [(oP 2 (.box 27 (.t 0))),(oP 4 (.mv (.c (.bool false))))])
 (.seq (.seq (.ops [(mV 11 1),(oP 12 (.lenS (.t 11))),(oJ 13 .gtr 12 200)])
 (.cond (.t 13)
 (.seq (.ops [(oP 14 (.callF 14 [])),(mV 4 14)])
 .ret)
 .skip))
 (.seq (.ops [(oB 16 21 2),(oV 17 15 16),(mV 15 17),(oQ 18 15 0),(oQ 19 15 1),(mV 5 18),(mV 6 19)])
 (.seq (.ops [(oB 20 21 2),(oV 21 16 20),(oP 7 (.alloc 33 [(.str []),(.int .i64 0)])),(oT 2 7 21)])
 (.seq (.ops [(mV 23 1),(oV 24 17 23),(mV 22 24),(oQ 25 22 0),(oQ 26 22 1),(oP 8 (.alloc 27 zRl)),(oT 21 8 25),(mV 9 26)])
 (.seq (.ops [(mV 27 1),(oV 28 18 27),(oP 10 (.alloc 38 zRm)),(oT 22 10 28)])
 (.seq (.draw [((oP 29 (.callF 14 [])),4),((mV 30 29),0),((oG 31 30 true (.load true 21 (.t 2))),1),((oG 32 30 true (.callF 19 [(.t 31)])),0),((oG 33 30 true (.load true 21 (.t 2))),1),((oG 34 30 true (.callF 20 [(.t 33)])),4),((oG 35 30 true (.bin .eql (.t 32) (.t 34))),0),((oN 36 30 35),0),((mV 37 36),0),((oE 38 37 true 5),0),((oF 39 37 true 0 7),0),((oD 40 37 true 39),1),((oG 41 37 true (.bin .eql (.t 38) (.t 40))),0),((oN 42 37 41),0),((mV 43 42),0),((oE 44 43 true 6),0),((oF 45 43 true 1 7),0),((oD 46 43 true 45),1),((oG 47 43 true (.bin .eql (.t 44) (.t 46))),0),((oN 48 43 47),0),((mV 49 48),0),((oG 50 49 true (.load true 21 (.t 8))),1),((oF 51 49 true 0 10),0),((oG 52 49 true (.load true 21 (.t 51))),1),((oG 53 49 true (.cmp false 27 (.t 50) (.t 52))),0),((oN 54 49 53),0),((mV 55 54),0),((oE 56 55 true 9),0),((oF 57 55 true 21 10),0),((oD 58 55 true 57),1),((oG 59 55 true (.bin .eql (.t 56) (.t 58))),0),((oN 60 55 59),0),((mV 4 60),0)])
 .ret)))))))
theorem F3:FI 3 2 61 6 [.tmp 4] c3:=mkF Tryz.f3 Tryz.func3
def c5:RC :=
 (.seq (.ops [(oP 4 (.box 27 (.t 0))),(oP 8 (.mv (.c (.bool false))))])
 (.seq (.seq (.ops [(mV 18 1),(oP 19 (.lenS (.t 18))),(oJ 20 .gtr 19 200)])
 (.cond (.t 20)
 (.seq (.ops [(oP 21 (.callF 14 [])),(mV 8 21)])
 .ret)
 .skip))
 (.seq (.ops [(mV 23 1),(oV 24 17 23),(mV 22 24),(oQ 25 22 0),(oQ 26 22 1),(oP 9 (.alloc 27 zRl)),(oT 21 9 25),(mV 10 26)])
 (.seq (.seq (.ops [(mV 27 10),(oJ 28 .eql 27 0)])
 (.cond (.t 28)
 (.seq (.ops [(oB 30 21 9),(oV 31 15 30),(mV 29 31),(oQ 32 29 0),(oQ 33 29 1),(mV 11 32),(mV 12 33)])
 (.seq (.ops [(mV 34 12),(oJ 35 .neq 34 0),(mV 36 35),(oE 37 36 false 11),(oE 38 36 false 1),(oG 39 36 false (.bin .neq (.t 37) (.t 38))),(oM 40 36 39)])
 (.cond (.t 40)
 (.seq (.ops [(oP 8 (.mv (.c (.bool false))))])
 .ret)
 .skip)))
 .skip))
 (.seq (.ops [(oB 42 21 4),(oV 43 15 42),(mV 41 43),(oQ 44 41 0),(oQ 45 41 1),(mV 13 44),(mV 10 45)])
 (.seq (.seq (.ops [(mV 46 10),(oJ 47 .neq 46 0)])
 (.cond (.t 47)
 (.seq (.ops [(oP 48 (.callF 14 [])),(mV 49 48),(oG 50 49 true (.load true 21 (.t 4))),(oG 51 49 true (.callF 19 [(.t 50)])),(oG 52 49 true (.bin .eql (.t 51) (.c (.int .i64 2)))),(oN 53 49 52),(mV 8 53)])
 .ret)
 .skip))
 (.seq (.ops [(mV 55 13),(oV 56 17 55),(mV 54 56),(oQ 57 54 0),(oQ 58 54 1),(oP 14 (.alloc 27 zRl)),(oT 21 14 57),(mV 15 58)])
 (.seq (.seq (.ops [(mV 59 15),(oJ 60 .neq 59 0),(mV 61 60),(oG 62 61 false (.load true 21 (.t 14))),(oG 63 61 false (.load true 21 (.t 4))),(oG 64 61 false (.cmp true 27 (.t 62) (.t 63))),(oM 65 61 64),(mV 66 65),(oE 67 66 false 13),(oG 68 66 false (.lenS (.t 67))),(oG 69 66 false (.bin .neq (.t 68) (.c (.int .i64 64)))),(oM 70 66 69)])
 (.cond (.t 70)
 (.seq (.ops [(oP 8 (.mv (.c (.bool false))))])
 .ret)
 .skip))
 (.seq (.ops [(mV 71 2),(oP 72 (.toInt .i64 (.t 71))),(mV 73 13),(oP 74 (.lenS (.t 73))),(oI 75 .rem 72 74),(mV 16 75)])
 (.seq (.ops [(mV 76 13),(oP 77 (.strBytes (.t 76))),(mV 17 77)])
 (.seq (.ops [(mV 78 17),(mV 79 16),(mV 80 3),(oS 81 1 78 79),(oT 1 81 80)])
 (.seq (.ops [(mV 83 17),(oP 84 (.bytesStr (.t 83))),(oV 85 17 84),(mV 82 85),(oQ 86 82 0),(oQ 87 82 1),(mV 15 87)])
 (.seq (.ops [(oP 88 (.callF 14 [])),(mV 89 88),(oE 90 89 true 13),(oE 91 89 true 16),(oG 92 89 true (.indexS (.t 90) (.t 91))),(oE 93 89 true 3),(oG 94 89 true (.bin .eql (.t 92) (.t 93))),(oE 95 89 true 94),(oE 96 95 false 15),(oG 97 95 false (.bin .eql (.t 96) (.c (.int .i64 8)))),(oG 98 89 true (.pick (.t 95) (.c (.bool true)) (.t 97))),(oN 99 89 98),(mV 8 99)])
 .ret)))))))))))))
theorem F5:FI 5 4 100 7 [.tmp 8] c5:=mkF Tryz.f5 Tryz.func5
structure Rt where
 ver:Int
 root:Int
 count:Int
 sum:Dg
 list:Int
 pages:Int
def Rt.cells (r:Rt):List AV:=[i64 r.ver,i64 r.root,i64 r.count,u8 r.sum.b0,u8 r.sum.b1,u8 r.sum.b2,u8 r.sum.b3,u8 r.sum.b4,u8 r.sum.b5,u8 r.sum.b6,u8 r.sum.b7,u8 r.sum.b8,u8 r.sum.b9,u8 r.sum.b10,u8 r.sum.b11,u8 r.sum.b12,u8 r.sum.b13,u8 r.sum.b14,u8 r.sum.b15,i64 r.list,i64 r.pages]
def Rt.av (r:Rt):AV:=.agg r.cells
abbrev zez:Nat:=27
abbrev za4 (r:Rt):AB:=.cells 0 (some zez) r.cells 0
def zg5 (p k:Int):Bool:=decide (2 ≤ k)&&decide (k<p)
def zfd (r:Rt):Bool:=decide (r.root=0 ∧ r.count=0 ∧ r.sum=Dg.zero)
def zdr (r:Rt):Bool:=(decide (0 ≤ r.ver)&&(decide (r.ver ≤ 1099511627776)&&(decide (2 ≤ r.pages)&&decide (r.pages ≤ 4096))))&&((r.list==0||zg5 r.pages r.list)&&(zfd r||(zg5 r.pages r.root&&(decide (1 ≤ r.count)&&decide (r.count<2147483648)))))
theorem zw2 (r:Rt):eqA Tryz.prog 20 25 (.agg [i64 r.root,i64 r.count,u8 r.sum.b0,u8 r.sum.b1,u8 r.sum.b2,u8 r.sum.b3,u8 r.sum.b4,u8 r.sum.b5,u8 r.sum.b6,u8 r.sum.b7,u8 r.sum.b8,u8 r.sum.b9,u8 r.sum.b10,u8 r.sum.b11,u8 r.sum.b12,u8 r.sum.b13,u8 r.sum.b14,u8 r.sum.b15]) (.agg (i64 0::i64 0::Dg.zero.cells))=some (zfd r):=by
 have e1:eqA Tryz.prog 20 25 (.agg [i64 r.root,i64 r.count,u8 r.sum.b0,u8 r.sum.b1,u8 r.sum.b2,u8 r.sum.b3,u8 r.sum.b4,u8 r.sum.b5,u8 r.sum.b6,u8 r.sum.b7,u8 r.sum.b8,u8 r.sum.b9,u8 r.sum.b10,u8 r.sum.b11,u8 r.sum.b12,u8 r.sum.b13,u8 r.sum.b14,u8 r.sum.b15]) (.agg (i64 0::i64 0::Dg.zero.cells))=zcz (eqA Tryz.prog 19) [(3,i64 r.root,i64 0),(3,i64 r.count,i64 0),(23,.agg r.sum.cells,.agg Dg.zero.cells)]:=by kernel_rfl
 have e2:∀ (a b:Int),eqA Tryz.prog 19 3 (i64 a) (i64 b)=some (a==b):=fun a b=>by kernel_rfl
 have e3:eqA Tryz.prog 19 23 (.agg r.sum.cells) (.agg Dg.zero.cells)=zcz (eqA Tryz.prog 18) (zipE 5 (r.sum.list.map u8) (Dg.zero.list.map u8)):=by kernel_rfl
 have e4:∀ (x y:UInt8),eqA Tryz.prog 18 5 (.int .u8 x.toNat) (.int .u8 y.toNat)=some (((x.toNat:Nat):Int)==y.toNat):=fun x y=>by kernel_rfl
 rw [zep (fun x y=>by rw [e4,zqi]) r.sum.list Dg.zero.list rfl] at e3
 rw [e1]
 unfold zcz
 rw [e2]
 unfold zfd
 by_cases h1:r.root=0
 ·rw [show (r.root==0)=true by simp [h1]]
  simp only
  unfold zcz
  rw [e2]
  by_cases h2:r.count=0
  ·rw [show (r.count==0)=true by simp [h2]]
   simp only
   unfold zcz
   rw [e3]
   by_cases h3:r.sum=Dg.zero
   ·rw [show decide (r.sum.list=Dg.zero.list)=true by simp [Dg.list_inj,h3]]
    simp [zcz,h1,h2,h3]
   ·rw [show decide (r.sum.list=Dg.zero.list)=false by simp [Dg.list_inj,h3]]
    simp [h3]
  ·rw [show (r.count==0)=false by simp [h2]]
   simp [h2]
 ·rw [show (r.root==0)=false by simp [h1]]
  simp [h1]
section
variable {n:Nat}
theorem zwf (hn:1 ≤ n) {hp:zaa}{b:Nat}{r:Rt}(hb:hp[b]?=some (za4 r)) (k:Int):C n 67 [i64 k,.ptr b 0 0] hp=some (.ret (.bool (zg5 r.pages k)),hp):=by
 obtain ⟨m,rfl⟩:=pre1 n
 refine za2 F67 rfl rfl ?_
 repeat' (conv=>whnf);first
  | refine brd (fun _=>?_) (fun _=>?_)
  | refine ldI hb ?_
  | exact ⟨rfl,[_],rfl,by simp_all [zg5,tupA]<;>omega,rfl⟩
set_option maxRecDepth 100000 in
theorem zo5 (hn:2 ≤ n) {h:zaa}(r:Rt):C n 19 [r.av] h=some (.ret (i64 (if zdr r then 0 else 2)),h):=by
 obtain ⟨m,rfl⟩:=pre1 n
 have fine:fnOk Tryz.prog 67=true:=by kernel_rfl
 have cI:∀ k,C m 67 [i64 k,.ptr 0 0 0] [za4 r]=some (.ret (.bool (zg5 r.pages k)),[za4 r]):=fun k=>zwf (by omega) rfl k
 refine zak F19 rfl rfl rfl rfl ?_
 repeat' (conv=>whnf);first
  | refine br (fun _=>?_) (fun _=>?_)
  | refine ldI rfl ?_
  | refine cvI fine (cI _) ?_
  | refine eqI (zw2 r) ?_
  | refine retP rfl (zbw ?_)
 all_goals simp_all [zdr]
 all_goals omega
end
def fA (a w f:Nat):AV:=.agg [i64 a,i64 w,.fn (.func f) [] []]
abbrev fB (a w f:Nat):AB:=.cells 0 (some 138) [i64 a,i64 w,.fn (.func f) [] []] 0
def z64:Str:=List.replicate 64 0
def x0:Str:=82::(List.replicate 62 0++[82])
def y1 (r:Rt):Str:=lay x0 1 (num r.ver.toNat 6)
def y2 (r:Rt):Str:=lay (y1 r) 7 (num r.root.toNat 4)
def y3 (r:Rt):Str:=lay (y2 r) 11 (num r.count.toNat 4)
def y4 (r:Rt):Str:=lay (y3 r) 31 (num r.list.toNat 4)
def y5 (r:Rt):Str:=lay (y4 r) 35 (num r.pages.toNat 4)
def y6 (r:Rt):Str:=lay (y5 r) 15 r.sum.list
def y7 (r:Rt):Str:=lay (y6 r) 59 (num (crc ((y6 r).take 59)).toNat 4)
theorem zuh:x0.length=64:=rfl
theorem zug (r:Rt):(y1 r).length=64:=by unfold y1;rw [zeg (by rw [zal,zuh];decide),zuh]
theorem zuf (r:Rt):(y2 r).length=64:=by unfold y2;rw [zeg (by rw [zal,zug];decide),zug]
theorem zue (r:Rt):(y3 r).length=64:=by unfold y3;rw [zeg (by rw [zal,zuf];decide),zuf]
theorem zud (r:Rt):(y4 r).length=64:=by unfold y4;rw [zeg (by rw [zal,zue];decide),zue]
theorem zuc (r:Rt):(y5 r).length=64:=by unfold y5;rw [zeg (by rw [zal,zud];decide),zud]
theorem z0y (r:Rt):(y6 r).length=64:=by unfold y6;rw [zeg (by rw [zuc];show 15+16 ≤ 64;decide),zuc]
theorem y7_len (r:Rt):(y7 r).length=64:=by unfold y7;rw [zeg (by rw [zal,z0y];decide),z0y]
theorem zmw (h:zaa) {bb ver:Nat}{el:Option TypeId}{xs:List AV}{frz:Nat}(hb:h[bb]?=some (.cells ver el xs frz)) {o k len:Nat}(hk:k ≤ len) (hl:o+k ≤ xs.length):zax h 1 k (.sl 1 bb ver o len)=some ((xs.drop o).take k):=by
 unfold zax
 simp only
 rw [if_pos ⟨hk,trivial⟩,hb]
 simp only
 rw [if_pos ⟨trivial,by omega⟩,Nat.mul_one]
theorem zwq (h:zaa) (s:Str):frz h 64 (tupA [.agg (s.map u8)])=some (.agg (s.map u8)):=zby (n:=63) (fun x hx=>by obtain ⟨c,_,rfl⟩:=List.mem_map.1 hx;exact zat) h
theorem z2y (xs:Str) (p:Nat) (ys:Str):putAt (xs.map u8) p (ys.map u8)=(lay xs p ys).map u8:=by
 unfold putAt lay
 simp [List.map_take,List.map_drop]
theorem zgy {cs:List AV}{n:Nat}(h:cs.length=n):zkk true n cs 0=some (.agg cs):=by
 unfold zkk
 rw [if_pos rfl,if_pos (by omega),List.drop_zero,List.take_of_length_le (by omega)]
section
variable {n:Nat}{h:zaa}
theorem zom (hn:1 ≤ n):C n 64 [] h=some (.ret (.lst 3 [fA 1 6 137,fA 7 4 138,fA 11 4 139,fA 31 4 140,fA 35 4 141] true),h):=by
 obtain ⟨m,rfl⟩:=pre1 n
 refine zak F64 rfl rfl rfl rfl ?_
 conv=>whnf
 refine ⟨rfl,?_⟩
 conv=>whnf
 exact ⟨rfl,[_],rfl,rfl⟩
theorem zor (hn:1 ≤ n) {h:zaa}(b:Nat):C n 137 [.ptr b 0 0] h=some (.ret (.ptr b 0 0),h):=by
 obtain ⟨m,rfl⟩:=pre1 n
 refine za2 F137 rfl rfl ?_
 conv=>whnf
 exact ⟨rfl,[_],rfl,rfl,rfl⟩
theorem zoq (hn:1 ≤ n) {h:zaa}(b:Nat):C n 138 [.ptr b 0 0] h=some (.ret (.ptr b 0 1),h):=by
 obtain ⟨m,rfl⟩:=pre1 n
 refine za2 F138 rfl rfl ?_
 conv=>whnf
 exact ⟨rfl,[_],rfl,rfl,rfl⟩
theorem zop (hn:1 ≤ n) {h:zaa}(b:Nat):C n 139 [.ptr b 0 0] h=some (.ret (.ptr b 0 2),h):=by
 obtain ⟨m,rfl⟩:=pre1 n
 refine za2 F139 rfl rfl ?_
 conv=>whnf
 exact ⟨rfl,[_],rfl,rfl,rfl⟩
theorem zoo (hn:1 ≤ n) {h:zaa}(b:Nat):C n 140 [.ptr b 0 0] h=some (.ret (.ptr b 0 19),h):=by
 obtain ⟨m,rfl⟩:=pre1 n
 refine za2 F140 rfl rfl ?_
 conv=>whnf
 exact ⟨rfl,[_],rfl,rfl,rfl⟩
theorem zon (hn:1 ≤ n) {h:zaa}(b:Nat):C n 141 [.ptr b 0 0] h=some (.ret (.ptr b 0 20),h):=by
 obtain ⟨m,rfl⟩:=pre1 n
 refine za2 F141 rfl rfl ?_
 conv=>whnf
 exact ⟨rfl,[_],rfl,rfl,rfl⟩
def hS (r:Rt):Nat → zaa
 | 0=>[za4 r,recC z64,recC x0]
 | 1=>[za4 r,recC z64,recC (y1 r),fB 1 6 137]
 | 2=>[za4 r,recC z64,recC (y2 r),fB 1 6 137,fB 7 4 138]
 | 3=>[za4 r,recC z64,recC (y3 r),fB 1 6 137,fB 7 4 138,fB 11 4 139]
 | 4=>[za4 r,recC z64,recC (y4 r),fB 1 6 137,fB 7 4 138,fB 11 4 139,fB 31 4 140]
 | _=>[za4 r,recC z64,recC (y5 r),fB 1 6 137,fB 7 4 138,fB 11 4 139,fB 31 4 140,fB 35 4 141]
set_option maxRecDepth 100000 in
theorem zmd {m:Nat}(hm:1 ≤ m) (r:Rt) (v0:0 ≤ r.ver) (v1:0 ≤ r.root) (v2:0 ≤ r.count) (v3:0 ≤ r.list) (v4:0 ≤ r.pages) {Q:Ex → LS → Prop}{st:LS}
  (hs:LS.sub ⟨[(1,.ptr 0 0 0),(2,.ptr 1 0 0),(3,.ptr 2 0 0),(8,.lst 3 [fA 1 6 137,fA 7 4 138,fA 11 4 139,fA 31 4 140,fA 35 4 141] true),(9,i64 5),(10,i64 0)],hS r 0,[]⟩ st)
  (hE:∀ Lt,subL [(1,.ptr 0 0 0),(2,.ptr 1 0 0),(3,.ptr 2 0 0)] Lt → Q (.exit 0) ⟨Lt,hS r 5,[]⟩) :
  OkR Tryz.prog (C m) cfg0.inl KK 36 6 (.loop (c59.lp 0)) st Q:=by
 have p1:=put_eq (n:=m) hm (hp:=[za4 r,recC z64,recC x0,fB 1 6 137]) (b:=2) (xs:=x0) ⟨rfl,zuh⟩ 1 6 r.ver.toNat (by decide) (by decide)
 rw [Int.toNat_of_nonneg v0] at p1
 have p2:=put_eq (n:=m) hm (hp:=[za4 r,recC z64,recC (y1 r),fB 1 6 137,fB 7 4 138]) (b:=2) (xs:=y1 r) ⟨rfl,zug r⟩ 7 4 r.root.toNat (by decide) (by decide)
 rw [Int.toNat_of_nonneg v1] at p2
 have p3:=put_eq (n:=m) hm (hp:=[za4 r,recC z64,recC (y2 r),fB 1 6 137,fB 7 4 138,fB 11 4 139]) (b:=2) (xs:=y2 r) ⟨rfl,zuf r⟩ 11 4 r.count.toNat (by decide) (by decide)
 rw [Int.toNat_of_nonneg v2] at p3
 have p4:=put_eq (n:=m) hm (hp:=[za4 r,recC z64,recC (y3 r),fB 1 6 137,fB 7 4 138,fB 11 4 139,fB 31 4 140]) (b:=2) (xs:=y3 r) ⟨rfl,zue r⟩ 31 4 r.list.toNat (by decide) (by decide)
 rw [Int.toNat_of_nonneg v3] at p4
 have p5:=put_eq (n:=m) hm (hp:=[za4 r,recC z64,recC (y4 r),fB 1 6 137,fB 7 4 138,fB 11 4 139,fB 31 4 140,fB 35 4 141]) (b:=2) (xs:=y4 r) ⟨rfl,zud r⟩ 35 4 r.pages.toNat (by decide) (by decide)
 rw [Int.toNat_of_nonneg v4] at p5
 refine za7 (by decide) rfl (α:=Nat) (fun j=>⟨[(1,.ptr 0 0 0),(2,.ptr 1 0 0),(3,.ptr 2 0 0),(8,.lst 3 [fA 1 6 137,fA 7 4 138,fA 11 4 139,fA 31 4 140,fA 35 4 141] true),(9,i64 5),(10,i64 j)],hS r j,[]⟩) (fun j=>j ≤ 5) (fun j=>5-j) 0 hs (by decide) (by decide) ?_
 intro j hj
 have hjs:j=0 ∨ j=1 ∨ j=2 ∨ j=3 ∨ j=4 ∨ j=5:=by omega
 rcases hjs with rfl | rfl | rfl | rfl | rfl | rfl
 ·conv=>whnf
  refine ⟨by decide,rfl,_,rfl,_,rfl,?_⟩
  conv=>whnf
  refine stJ (by rfl) (xs:=[i64 1,i64 6,.fn (.func 137) [] []]) ?_
  conv=>whnf
  refine ldI (by rfl) ?_
  conv=>whnf
  refine ldI (by rfl) ?_
  conv=>whnf
  refine ldI (by rfl) ?_
  conv=>whnf
  refine cvI (by kernel_rfl) (zor hm 0) ?_
  conv=>whnf
  refine ⟨?_,?_⟩
  ·repeat' first | ((conv=>whnf)<;>done) | ((conv=>whnf)<;>(first | (refine ldI rfl ?_;rfl) | refine ⟨?_,?_⟩))
  conv=>whnf
  refine ldI (by rfl) ?_
  conv=>whnf
  refine clI p1 ?_
  conv=>whnf
  refine ⟨?_,?_⟩
  ·repeat' first | ((conv=>whnf)<;>done) | ((conv=>whnf)<;>(first | (refine ldI rfl ?_;rfl) | refine ⟨?_,?_⟩))
  conv=>whnf
  refine zI (z:=((0+1:Nat):Int)) (by decide) ?_
  exact nxI (0+1) (by decide) (by decide) ⟨⟨rfl,rfl,rfl,rfl,rfl,rfl⟩,rfl,rfl⟩
 ·conv=>whnf
  refine ⟨by decide,rfl,_,rfl,_,rfl,?_⟩
  conv=>whnf
  refine stJ (by rfl) (xs:=[i64 7,i64 4,.fn (.func 138) [] []]) ?_
  conv=>whnf
  refine ldI (by rfl) ?_
  conv=>whnf
  refine ldI (by rfl) ?_
  conv=>whnf
  refine ldI (by rfl) ?_
  conv=>whnf
  refine cvI (by kernel_rfl) (zoq hm 0) ?_
  conv=>whnf
  refine ⟨?_,?_⟩
  ·repeat' first | ((conv=>whnf)<;>done) | ((conv=>whnf)<;>(first | (refine ldI rfl ?_;rfl) | refine ⟨?_,?_⟩))
  conv=>whnf
  refine ldI (by rfl) ?_
  conv=>whnf
  refine clI p2 ?_
  conv=>whnf
  refine ⟨?_,?_⟩
  ·repeat' first | ((conv=>whnf)<;>done) | ((conv=>whnf)<;>(first | (refine ldI rfl ?_;rfl) | refine ⟨?_,?_⟩))
  conv=>whnf
  refine zI (z:=((1+1:Nat):Int)) (by decide) ?_
  exact nxI (1+1) (by decide) (by decide) ⟨⟨rfl,rfl,rfl,rfl,rfl,rfl⟩,rfl,rfl⟩
 ·conv=>whnf
  refine ⟨by decide,rfl,_,rfl,_,rfl,?_⟩
  conv=>whnf
  refine stJ (by rfl) (xs:=[i64 11,i64 4,.fn (.func 139) [] []]) ?_
  conv=>whnf
  refine ldI (by rfl) ?_
  conv=>whnf
  refine ldI (by rfl) ?_
  conv=>whnf
  refine ldI (by rfl) ?_
  conv=>whnf
  refine cvI (by kernel_rfl) (zop hm 0) ?_
  conv=>whnf
  refine ⟨?_,?_⟩
  ·repeat' first | ((conv=>whnf)<;>done) | ((conv=>whnf)<;>(first | (refine ldI rfl ?_;rfl) | refine ⟨?_,?_⟩))
  conv=>whnf
  refine ldI (by rfl) ?_
  conv=>whnf
  refine clI p3 ?_
  conv=>whnf
  refine ⟨?_,?_⟩
  ·repeat' first | ((conv=>whnf)<;>done) | ((conv=>whnf)<;>(first | (refine ldI rfl ?_;rfl) | refine ⟨?_,?_⟩))
  conv=>whnf
  refine zI (z:=((2+1:Nat):Int)) (by decide) ?_
  exact nxI (2+1) (by decide) (by decide) ⟨⟨rfl,rfl,rfl,rfl,rfl,rfl⟩,rfl,rfl⟩
 ·conv=>whnf
  refine ⟨by decide,rfl,_,rfl,_,rfl,?_⟩
  conv=>whnf
  refine stJ (by rfl) (xs:=[i64 31,i64 4,.fn (.func 140) [] []]) ?_
  conv=>whnf
  refine ldI (by rfl) ?_
  conv=>whnf
  refine ldI (by rfl) ?_
  conv=>whnf
  refine ldI (by rfl) ?_
  conv=>whnf
  refine cvI (by kernel_rfl) (zoo hm 0) ?_
  conv=>whnf
  refine ⟨?_,?_⟩
  ·repeat' first | ((conv=>whnf)<;>done) | ((conv=>whnf)<;>(first | (refine ldI rfl ?_;rfl) | refine ⟨?_,?_⟩))
  conv=>whnf
  refine ldI (by rfl) ?_
  conv=>whnf
  refine clI p4 ?_
  conv=>whnf
  refine ⟨?_,?_⟩
  ·repeat' first | ((conv=>whnf)<;>done) | ((conv=>whnf)<;>(first | (refine ldI rfl ?_;rfl) | refine ⟨?_,?_⟩))
  conv=>whnf
  refine zI (z:=((3+1:Nat):Int)) (by decide) ?_
  exact nxI (3+1) (by decide) (by decide) ⟨⟨rfl,rfl,rfl,rfl,rfl,rfl⟩,rfl,rfl⟩
 ·conv=>whnf
  refine ⟨by decide,rfl,_,rfl,_,rfl,?_⟩
  conv=>whnf
  refine stJ (by rfl) (xs:=[i64 35,i64 4,.fn (.func 141) [] []]) ?_
  conv=>whnf
  refine ldI (by rfl) ?_
  conv=>whnf
  refine ldI (by rfl) ?_
  conv=>whnf
  refine ldI (by rfl) ?_
  conv=>whnf
  refine cvI (by kernel_rfl) (zon hm 0) ?_
  conv=>whnf
  refine ⟨?_,?_⟩
  ·repeat' first | ((conv=>whnf)<;>done) | ((conv=>whnf)<;>(first | (refine ldI rfl ?_;rfl) | refine ⟨?_,?_⟩))
  conv=>whnf
  refine ldI (by rfl) ?_
  conv=>whnf
  refine clI p5 ?_
  conv=>whnf
  refine ⟨?_,?_⟩
  ·repeat' first | ((conv=>whnf)<;>done) | ((conv=>whnf)<;>(first | (refine ldI rfl ?_;rfl) | refine ⟨?_,?_⟩))
  conv=>whnf
  refine zI (z:=((4+1:Nat):Int)) (by decide) ?_
  exact nxI (4+1) (by decide) (by decide) ⟨⟨rfl,rfl,rfl,rfl,rfl,rfl⟩,rfl,rfl⟩
 ·conv=>whnf
  exact hE _ ⟨rfl,rfl,rfl⟩
def rcTail:RC:=match c59 with
 | .seq _ (.seq _ (.seq _ (.seq _ (.cut x))))=>x
 | _=>.skip
set_option maxRecDepth 100000 in
theorem zmc {m:Nat}(hm:1 ≤ m) (r:Rt) (Y:Str) (hY:Y.length=64) (f1 f2 f3 f4 f5:AB) (W:Str) (hW:W=lay (lay Y 15 r.sum.list) 59 (num (crc ((lay Y 15 r.sum.list).take 59)).toNat 4)):Wp Tryz.prog (C m) cfg0.inl KK 36 6 rcTail ⟨[(1,.ptr 0 0 0),(2,.ptr 1 0 0),(3,.ptr 2 0 0)],[za4 r,recC z64,recC Y,f1,f2,f3,f4,f5],[]⟩ (RetQ Tryz.prog [.cell 2 tRec] fun v' h'=>frz h' 64 v'=some (.agg (W.map u8))):=by
 obtain ⟨Z,hZ⟩ : ∃ Z,Z=lay Y 15 r.sum.list:=⟨_,rfl⟩
 rw [← hZ] at hW
 have lZ:Z.length=64:=by rw [hZ,zeg (by rw [hY];show 15+16 ≤ 64;decide),hY]
 have lW:W.length=64:=by rw [hW,zeg (by rw [zal,lZ];decide),lZ]
 obtain ⟨k,hk⟩ : ∃ k,crc (Z.take 59)=k:=⟨_,rfl⟩
 rw [hk] at hW
 have pc:C m 135 [.str (Z.take 59)] [za4 r,recC z64,recC Z,f1,f2,f3,f4,f5]=some (.ret (u32 k),[za4 r,recC z64,recC Z,f1,f2,f3,f4,f5]):=by
  rw [← hk];exact zxb (by omega) _ (by rw [List.length_take];omega)
 have pp:=put_eq (n:=m) (by omega) (hp:=[za4 r,recC z64,recC Z,f1,f2,f3,f4,f5]) (b:=2) (xs:=Z) ⟨rfl,lZ⟩ 59 4 k.toNat (by decide) (by decide)
 rw [← hW] at pp
 have l5:(Y.map u8).length=64:=by rw [List.length_map,hY]
 have l6:(Z.map u8).length=64:=by rw [List.length_map,lZ]
 have l7:(W.map u8).length=64:=by rw [List.length_map,lW]
 have ec:cpyR [za4 r,recC z64,recC Y,f1,f2,f3,f4,f5] 1 (.sl 1 2 0 15 49) (.sl 1 0 0 3 16)=some (.int .i64 16,some [za4 r,recC z64,recC Z,f1,f2,f3,f4,f5]):=by
  have g2:([za4 r,recC z64,recC Y,f1,f2,f3,f4,f5]:zaa)[2]?=some (recC Y):=rfl
  have g0:([za4 r,recC z64,recC Y,f1,f2,f3,f4,f5]:zaa)[0]?=some (za4 r):=rfl
  unfold cpyR
  simp only [ziz,lenA]
  rw [show min 16 49=16 from rfl,zmw _ g0 (Nat.le_refl 16) (show 3+16 ≤ 21 by decide)]
  simp only
  rw [if_neg (by decide),g2]
  simp only
  have e:(r.cells.drop 3).take 16=r.sum.list.map u8:=rfl
  rw [e,if_pos ⟨trivial,trivial,Nat.zero_le _,by rw [l5];show 15+16 ≤ 64;decide,zec _⟩,z2y,hZ]
  rfl
 clear hW hZ hk
 conv=>whnf
 refine ⟨_,_,_,rfl,⟨by rw [l5];decide,by decide⟩,?_⟩
 refine slI (v:=.sl 1 2 0 15 49) rfl ?_
 conv=>whnf
 refine ⟨_,_,_,rfl,⟨show 0+1+2+16*1 ≤ 21 by decide,by decide⟩,?_⟩
 refine slI (v:=.sl 1 0 0 3 16) rfl ?_
 conv=>whnf
 refine ⟨_,ec,?_⟩
 conv=>whnf
 refine ⟨?_,?_⟩
 ·conv=>whnf
  refine ⟨?_,?_⟩
  ·conv=>whnf
   refine ⟨_,_,_,rfl,⟨show 0+1+2+16*1 ≤ 21 by decide,by decide⟩,?_⟩
   exact slI (v:=.sl 1 0 0 3 16) rfl rfl
  conv=>whnf
  refine ⟨_,_,_,rfl,⟨by rw [l6];decide,by decide⟩,?_⟩
  exact slI (v:=.sl 1 2 0 15 49) rfl rfl
 conv=>whnf
 refine ⟨_,_,_,rfl,⟨by rw [l6];decide,by decide⟩,?_⟩
 refine slI (v:=.sl 1 2 0 0 59) rfl ?_
 conv=>whnf
 refine ⟨_,Z.take 59,?_,zbx _,?_⟩
 ·rw [zmw (xs:=Z.map u8) (el:=some tRec) (frz:=0) _ rfl (Nat.le_refl 59) (by rw [l6];decide),List.drop_zero,List.map_take]
 conv=>whnf
 refine clI pc ?_
 conv=>whnf
 refine zI (z:=(k.toNat:Int)) (by have:=k.toNat_lt;exact zad (by omega) (by omega)) ?_
 conv=>whnf
 refine clI pp ?_
 conv=>whnf
 refine ldI (cs:=W.map u8) rfl ?_
 refine zdp (zgy l7) ?_
 conv=>whnf
 have hput:putAt (z64.map u8) 0 (W.map u8)=W.map u8:=by
  unfold putAt
  rw [List.take_zero,List.nil_append,List.drop_of_length_le (by rw [l7];decide),List.append_nil]
 refine stI (xs:=W.map u8) (cs:=z64.map u8) rfl (zen (zec _)) l7 (by rw [l7];rfl) (by rfl) ?_
 refine ⟨rfl,[.agg (W.map u8)],?_,?_⟩
 ·have:=zbk (h:=[za4 r,.cells 0 (some tRec) (putAt (z64.map u8) 0 (W.map u8)) 0,recC W,f1,f2,f3,f4,f5]) (t:=tRec) (N:=64) (b:=1) (ver:=0) (el:=some tRec) (cs:=W.map u8) (f:=0) (by kernel_rfl) l7 (by rw [hput];rfl)
  show (match zbv Tryz.prog [za4 r,.cells 0 (some tRec) (putAt (z64.map u8) 0 (W.map u8)) 0,recC W,f1,f2,f3,f4,f5] tRec (.ptr 1 0 0) with | some v=>some [v] | none=>none)=_
  rw [this]
 ·exact zwq _ _
set_option maxRecDepth 100000 in
theorem zpu (hn:2 ≤ n) (r:Rt) (v0:0 ≤ r.ver) (v1:0 ≤ r.root) (v2:0 ≤ r.count) (v3:0 ≤ r.list) (v4:0 ≤ r.pages):C n 59 [r.av] h=some (.ret (.agg ((y7 r).map u8)),h):=by
 obtain ⟨m,rfl⟩:=pre1 n
 refine zak F59 rfl rfl rfl rfl ?_
 conv=>whnf
 refine ⟨by decide,by decide,?_⟩
 conv=>whnf
 refine stJ (by rfl) ?_
 conv=>whnf
 refine ⟨by decide,by decide,?_⟩
 conv=>whnf
 refine stJ (by rfl) ?_
 conv=>whnf
 refine clI (zom (by omega)) ?_
 conv=>whnf
 refine zmd (by omega) r v0 v1 v2 v3 v4 ⟨⟨rfl,rfl,rfl,rfl,rfl,rfl⟩,rfl,rfl⟩ (fun L hL=>?_)
 conv=>whnf
 refine cutI (by decide) rfl (t:=⟨[(1,.ptr 0 0 0),(2,.ptr 1 0 0),(3,.ptr 2 0 0)],hS r 5,[]⟩) ⟨hL,rfl,rfl⟩ ?_
 exact zmc (by omega) r (y5 r) (zuc r) _ _ _ _ _ (y7 r) rfl
end
end Go.Proofs
