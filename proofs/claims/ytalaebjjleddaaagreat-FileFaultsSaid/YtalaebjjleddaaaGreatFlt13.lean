/- Texts put together: Es, Ww, Db5, Ve, Vf, Vg, Vh, Zl, Dc5, Vi, Vj, Nd, Zm, Zn, Zo, Zp, Zq, Zr, Zs. -/
import Derived.Test.YtalaebjjleddaaaGreatFlt11
import Derived.Test.YtalaebjjleddaaaGreatFlt12
import Derived.Test.YtalaebjjleddaaaGreatFlt7
import Derived.Test.YtalaebjjleddaaaGreatFlt9
set_option linter.unusedVariables false
set_option linter.unusedSimpArgs false
namespace Go.Proofs
open Go Go.Abs
section
variable {n:Nat}{h:zaa}
theorem zpp (hn:1 ≤ n) (l:List Entry) (hl:l.length<1099511627776) (sz sz':Nat) (hz:l≠[] → sz=22) (hz':l≠[] → sz'=22) (c c':Bool):C n 94 [.lst sz (l.map Entry.av) c,.lst sz' (l.map Entry.av) c'] h=some (.ret (.bool true),h):=by
 obtain ⟨m,rfl⟩:=pre1 n
 refine zak F94 rfl rfl rfl (zb7 zcm l (zb7 zcm l rfl)) ?_
 conv=>whnf
 refine brq (fun a=>absurd rfl a) (fun _=>?_)
 conv=>whnf
 refine za7 (by decide) rfl (α:=Nat) (fun x=>⟨[(0,.lst sz (l.map Entry.av) c),(1,.lst sz' (l.map Entry.av) c'),(5,i64 x)],[],[]⟩) (fun x=>x ≤ l.length) (fun x=>l.length-x) 0 ⟨⟨rfl,rfl,rfl⟩,rfl,rfl⟩ (Nat.zero_le _) (by show l.length-0<KK;simp only [KK];omega) ?_
 intro j g1
 conv=>whnf
 refine brd (fun a=>?_) (fun a=>?_)
 ·have hj:j<l.length:=by simp only [List.length_map] at a;omega
  conv=>whnf
  refine ixL zbp hj hz ?_
  conv=>whnf
  refine ixL zbp hj hz' ?_
  conv=>whnf
  refine eqI (eq_ent l[j]) ?_
  conv=>whnf
  refine zJ j ?_
  exact nxI (j+1) hj (by omega) ⟨⟨rfl,rfl,rfl⟩,rfl,rfl⟩
 ·conv=>whnf
  refine cutI (by decide) rfl (t:=⟨[],[],[]⟩) ⟨trivial,rfl,rfl⟩ ?_
  conv=>whnf
  exact retP rfl (zas rfl)
theorem zpo (hn:1 ≤ n) (l:List Int) (hl:l.length<9223372036854775808) (sz sz':Nat) (hz:l≠[] → sz=1) (hz':l≠[] → sz'=1) (c c':Bool):C n 163 [.lst sz (l.map i64) c,.lst sz' (l.map i64) c'] h=some (.ret (.bool true),h):=by
 obtain ⟨m,rfl⟩:=pre1 n
 have hp:∀ k:Int,(i64 k).pureB=true:=fun _=>rfl
 refine zak F163 rfl rfl rfl (zb7 hp l (zb7 hp l rfl)) ?_
 conv=>whnf
 refine brq (fun a=>absurd rfl a) (fun _=>?_)
 conv=>whnf
 refine za7 (by decide) rfl (α:=Nat) (fun x=>⟨[(0,.lst sz (l.map i64) c),(1,.lst sz' (l.map i64) c'),(5,i64 x)],[],[]⟩) (fun x=>x ≤ l.length) (fun x=>l.length-x) 0 ⟨⟨rfl,rfl,rfl⟩,rfl,rfl⟩ (Nat.zero_le _) (by show l.length-0<KK;simp only [KK];omega) ?_
 intro j g1
 conv=>whnf
 refine brd (fun a=>?_) (fun a=>?_)
 ·have hj:j<l.length:=by simp only [List.length_map] at a;omega
  have hne:l≠[]:=by rintro rfl;simp at hj
  conv=>whnf
  refine ⟨by omega,hz hne,i64 l[j],by simp [hj],[i64 l[j]],rfl,?_⟩
  conv=>whnf
  refine ⟨by omega,hz' hne,i64 l[j],by simp [hj],[i64 l[j]],rfl,?_⟩
  conv=>whnf
  refine brq (fun a=>absurd rfl a) (fun _=>?_)
  conv=>whnf
  refine zJ j ?_
  exact nxI (j+1) hj (by omega) ⟨⟨rfl,rfl,rfl⟩,rfl,rfl⟩
 ·conv=>whnf
  refine cutI (by decide) rfl (t:=⟨[],[],[]⟩) ⟨trivial,rfl,rfl⟩ ?_
  conv=>whnf
  exact retP rfl (zas rfl)
theorem z0p {a b:List Freed}(h:a.map Freed.core=b.map Freed.core) {j:Nat}(ha:j<a.length) (hb:j<b.length):a[j].ver=b[j].ver ∧ a[j].pages=b[j].pages:=by
 have:=zm0 h j
 have e1:a.getD j default=a[j]:=by simp [ha]
 have e2:b.getD j default=b[j]:=by simp [hb]
 rw [e1,e2] at this
 exact this
theorem znj (hn:2 ≤ n) (a b:List Freed) (hc:a.map Freed.core=b.map Freed.core) (hl:a.length<1099511627776) (ha:∀ f∈a,f.Ok ∧ f.pages.length<9223372036854775808) (hb:∀ f∈b,f.Ok ∧ f.pages.length<9223372036854775808) (sz sz':Nat) (hz:a≠[] → sz=2) (hz':b≠[] → sz'=2) (c c':Bool):C n 95 [.lst sz (a.map Freed.av) c,.lst sz' (b.map Freed.av) c'] h=some (.ret (.bool true),h):=by
 obtain ⟨m,rfl⟩:=pre1 n
 have hlen:=zhc hc
 refine zak F95 rfl rfl rfl (zb7 zd6 a (zb7 zd6 b rfl)) ?_
 conv=>whnf
 refine brq (fun q=>absurd (by rw [List.length_map,List.length_map,hlen]) q) (fun _=>?_)
 conv=>whnf
 refine za7 (by decide) rfl (α:=Nat) (fun x=>⟨[(0,.lst sz (a.map Freed.av) c),(1,.lst sz' (b.map Freed.av) c'),(5,i64 x)],[],[]⟩) (fun x=>x ≤ a.length) (fun x=>a.length-x) 0 ⟨⟨rfl,rfl,rfl⟩,rfl,rfl⟩ (Nat.zero_le _) (by show a.length-0<KK;simp only [KK];omega) ?_
 intro j g1
 conv=>whnf
 refine brd (fun q=>?_) (fun q=>?_)
 ·have hj:j<a.length:=by simp only [List.length_map] at q;omega
  have hj':j<b.length:=by omega
  obtain ⟨e1,e2⟩:=z0p hc hj hj'
  obtain ⟨a1,a2⟩:=ha _ (List.getElem_mem hj)
  obtain ⟨b1,_⟩:=hb _ (List.getElem_mem hj')
  have cI:∀ h,C m 163 [.lst a[j].sh.sz (a[j].pages.map i64) a[j].sh.c,.lst b[j].sh.sz (b[j].pages.map i64) b[j].sh.c] h=some (.ret (.bool true),h):=fun h=>by
   rw [← e2]
   exact zpo (by omega) a[j].pages a2 _ _ a1 (by rw [e2];exact b1) _ _
  conv=>whnf
  refine ixL zbz hj hz ?_
  conv=>whnf
  refine ixL zbz hj' hz' ?_
  conv=>whnf
  refine brq (fun q=>absurd e1 q) (fun _=>?_)
  conv=>whnf
  refine ixL zbz hj hz ?_
  conv=>whnf
  refine ixL zbz hj' hz' ?_
  conv=>whnf
  refine clI (cI _) ?_
  conv=>whnf
  refine zJ j ?_
  exact nxI (j+1) hj (by omega) ⟨⟨rfl,rfl,rfl⟩,rfl,rfl⟩
 ·conv=>whnf
  refine cutI (by decide) rfl (t:=⟨[],[],[]⟩) ⟨trivial,rfl,rfl⟩ ?_
  conv=>whnf
  exact retP rfl (zas rfl)
theorem zk7 (hn:3 ≤ n) {p q:Page}(hs:Same p q) (op:p.Ok) (oq:q.Ok):C n 34 [p.av,q.av] h=some (.ret (.bool true),h):=by
 obtain ⟨m,rfl⟩:=pre1 n
 have cE:∀ h,C m 94 [.lst p.esh.sz (p.entries.map Entry.av) p.esh.c,.lst q.esh.sz (q.entries.map Entry.av) q.esh.c] h=some (.ret (.bool true),h):=fun h=>by
  rw [hs.entries]
  exact zpp (by omega) p.entries op.elen _ _ op.esz (by rw [← hs.entries];exact oq.esz) _ _
 have cF:∀ h,C m 95 [.lst p.fsh.sz (p.freed.map Freed.av) p.fsh.c,.lst q.fsh.sz (q.freed.map Freed.av) q.fsh.c] h=some (.ret (.bool true),h):=fun h =>
  znj (by omega) p.freed q.freed hs.freed.symm (by have:=op.flen;omega) op.fr oq.fr _ _ op.fsz oq.fsz _ _
 have hpure:zan [p.av,q.av]=true:=by simp [zan,zcs]
 refine zak F34 rfl rfl rfl hpure ?_
 conv=>whnf
 refine ldI (by rfl) ?_
 conv=>whnf
 refine ldI (by rfl) ?_
 conv=>whnf
 refine brq (fun a=>absurd hs.kind.symm a) (fun _=>?_)
 conv=>whnf
 refine ldI (by rfl) ?_
 conv=>whnf
 refine ldI (by rfl) ?_
 conv=>whnf
 refine brq (fun a=>absurd hs.no.symm a) (fun _=>?_)
 conv=>whnf
 refine ldI (by rfl) ?_
 conv=>whnf
 refine ldI (by rfl) ?_
 conv=>whnf
 refine brq (fun a=>absurd hs.ver.symm a) (fun _=>?_)
 conv=>whnf
 refine ldI (by rfl) ?_
 conv=>whnf
 refine ldI (by rfl) ?_
 conv=>whnf
 refine brq (fun a=>absurd hs.tree.symm a) (fun _=>?_)
 conv=>whnf
 refine ldI (by rfl) ?_
 conv=>whnf
 refine ldI (by rfl) ?_
 conv=>whnf
 refine brq (fun a=>absurd hs.level.symm a) (fun _=>?_)
 conv=>whnf
 refine ldI (by rfl) ?_
 conv=>whnf
 refine ldI (by rfl) ?_
 conv=>whnf
 refine eqI (r:=true) (by rw [zw3,hs.top];simp) ?_
 conv=>whnf
 refine ldI (by rfl) ?_
 conv=>whnf
 refine ldI (by rfl) ?_
 conv=>whnf
 refine brq (fun a=>absurd hs.next.symm a) (fun _=>?_)
 conv=>whnf
 refine ldI (by rfl) ?_
 conv=>whnf
 refine ldI (by rfl) ?_
 conv=>whnf
 refine brq (fun a=>absurd hs.data.symm a) (fun _=>?_)
 conv=>whnf
 refine ldI (by rfl) ?_
 conv=>whnf
 refine ldI (by rfl) ?_
 conv=>whnf
 refine clI (cE _) ?_
 conv=>whnf
 refine ldI (by rfl) ?_
 conv=>whnf
 refine ldI (by rfl) ?_
 conv=>whnf
 refine clI (cF _) ?_
 conv=>whnf
 exact retP rfl (zas rfl)
end
theorem Same.join {p q b:Page}(h1:Same p q) (h2:Same p b):Same q b :=
 ⟨h2.kind.trans h1.kind.symm,h2.no.trans h1.no.symm,h2.ver.trans h1.ver.symm,h2.tree.trans h1.tree.symm,h2.level.trans h1.level.symm,h2.top.trans h1.top.symm,h2.entries.trans h1.entries.symm,h2.next.trans h1.next.symm,h2.data.trans h1.data.symm,h2.freed.trans h1.freed.symm⟩
theorem Same.rfl' (p:Page):Same p p:=⟨rfl,rfl,rfl,rfl,rfl,rfl,rfl,rfl,rfl,rfl⟩
theorem zl0:zPage.Ok:=⟨fun h=>(h rfl).elim,fun h=>(h rfl).elim,by decide,by decide,by decide,(fun e he=>by cases he),(fun f hf=>by cases hf)⟩
def c70:RC :=
 (.seq (.ops [(oP 1 (.box 46 (.t 0))),(oP 2 (.mv (.c .nilp)))])
 (.seq (.ops [(oB 3 3 1),(oV 4 121 3),(oV 5 98 4)])
 (.seq (.ops [(oB 6 3 1),(oP 7 (.build [(.lst 0 [] true),(.lst 0 [] true),(.lst 0 [] true)] [(0,3,(.t 6))])),(oP 8 (.box 165 (.t 7))),(mV 2 8)])
 .ret)))
theorem F70:FI 70 1 9 4 [.tmp 2] c70:=mkF Tryz.f70 Tryz.func70
def c98:RC :=
 (.seq (.ops [(mV 2 0),(oJ 3 .neq 2 0)])
 (.cond (.t 3)
 (.ops [(mV 4 0),(oP 5 (.build [(.int .i64 0)] [(0,1,(.t 4))])),(oP 6 (.mkIfc 217 (.t 5))),
 ⟨none,none,.pan (.t 6)⟩])
 .skip))
theorem F98:FI 98 1 7 4 [] c98:=mkF Tryz.f98 Tryz.func98
def c80:RC :=
 (.seq (.ops [(mV 4 0),(oP 5 (.un .not (.t 4)))])
 (.cond (.t 5)
 (.ops [(mV 6 1),(oV 7 98 6)])
 .skip))
theorem F80:FI 80 2 8 4 [] c80:=mkF Tryz.f80 Tryz.func80
def c91:RC :=
 (.seq (.ops [(oH 2 0)])
 (.seq (.ops [(mV 3 0),(oR 4 3),(oC 5 0 4),(oC 6 0 5),(oA 7 6),(oK 8 7),(oJ 9 .quo 8 8),(mV 2 9)])
 .ret))
theorem F91:FI 91 1 10 4 [.tmp 2] c91:=mkF Tryz.f91 Tryz.func91
def c93:RC :=
 (.seq (.ops [(oP 4 (.alloc 79 zPl)),(oH 5 0)])
 (.seq (.ops [(mV 10 0),(oR 11 10),(oC 12 0 11),(oB 13 3 12),(mV 14 1),(oJ 15 .mul 14 8),(oP 16 (.callF 161 [(.t 13),(.t 15),(.c (.int .i64 8))])),(mV 9 16),(oQ 17 9 0),(oQ 18 9 1),(mV 6 17),(mV 7 18)])
 (.seq (.seq (.ops [(mV 19 7),(oJ 20 .neq 19 0)])
 (.cond (.t 20)
 (.seq (.ops [(oP 21 (.build zPl [])),(oT 10 4 21),(oH 5 8)])
 .ret)
 .skip))
 (.seq (.ops [(mV 23 6),(oV 24 162 23),(mV 22 24),(oQ 25 22 0),(oQ 26 22 1),(oP 8 (.alloc 79 zPl)),(oT 10 8 25),(mV 7 26)])
 (.seq (.seq (.ops [(mV 27 7),(oJ 28 .neq 27 0),(mV 29 28),(oF 30 29 false 1 8),(oD 31 29 false 30),(oE 32 29 false 1),(oG 33 29 false (.bin .neq (.t 31) (.t 32))),(oM 34 29 33)])
 (.cond (.t 34)
 (.seq (.ops [(oP 35 (.build zPl [])),(oT 10 4 35),(oH 5 8)])
 .ret)
 .skip))
 (.seq (.ops [(oB 36 10 8),(oT 10 4 36),(oH 5 0)])
 .ret))))))
theorem F93:FI 93 2 37 6 [.cell 4 79,.tmp 5] c93:=mkF Tryz.f93 Tryz.func93
def c75:RC :=
 (.seq (.ops [(oP 1 (.box 46 (.t 0))),(oH 2 0)])
 (.seq (.ops [(oC 3 0 1),(oA 4 3),(oK 5 4),(oJ 6 .quo 5 8),(mV 2 6)])
 .ret))
theorem F75:FI 75 1 7 4 [.tmp 2] c75:=mkF Tryz.f75 Tryz.func75
def c21:RC :=
 (.seq (.ops [(oP 1 (.box 46 (.t 0))),(oP 2 (.mv (.c (.bool false))))])
 (.seq (.seq (.ops [(oC 5 0 1),(oA 6 5),(oK 7 6),(oJ 8 .gtr 7 200),(mV 9 8),(oF 10 9 false 1 1),(oD 11 9 false 10),(oG 12 9 false (.lenL (.t 11))),(oG 13 9 false (.bin .gtr (.t 12) (.c (.int .i64 200)))),(oM 14 9 13),(mV 15 14),(oF 16 15 false 2 1),(oD 17 15 false 16),(oG 18 15 false (.lenL (.t 17))),(oG 19 15 false (.bin .gtr (.t 18) (.c (.int .i64 200)))),(oM 20 15 19)])
 (.cond (.t 20)
 (.seq (.ops [(oP 2 (.mv (.c (.bool false))))])
 .ret)
 .skip))
 (.seq (.seq (.ops [(oH 3 0)])
 (.block 0
 (.loop
 (.seq (.seq (.ops [(mV 21 3),(oC 22 0 1),(oA 23 22),(oK 24 23),(oI 25 .lss 21 24)])
 (.cond (.t 25)
 .skip
 (.exit 0)))
 (.seq (.block 1
 (.seq (.ops [(oC 28 0 1),(oA 29 28),(mV 30 3),(oS 31 1 29 30),(oA 32 31),(oP 33 (.lenS (.t 32))),(oJ 34 .gtr 33 600)])
 (.cond (.t 34)
 (.seq (.ops [(oP 2 (.mv (.c (.bool false))))])
 .ret)
 .skip)))
 (.ops [(mV 26 3),(oJ 27 .add 26 1),(mV 3 27)]))))))
 (.cut (.seq (.seq (.ops [(oH 4 0)])
 (.block 2
 (.loop
 (.seq (.seq (.ops [(mV 35 4),(oC 36 1 1),(oA 37 36),(oK 38 37),(oI 39 .lss 35 38)])
 (.cond (.t 39)
 .skip
 (.exit 2)))
 (.seq (.block 3
 (.seq (.ops [(oC 42 1 1),(oA 43 42),(mV 44 4),(oS 45 2 43 44),(oC 46 1 45),(oA 47 46),(oP 48 (.lenS (.t 47))),(oJ 49 .gtr 48 600)])
 (.cond (.t 49)
 (.seq (.ops [(oP 2 (.mv (.c (.bool false))))])
 .ret)
 .skip)))
 (.ops [(mV 40 4),(oJ 41 .add 40 1),(mV 4 41)]))))))
 (.cut (.seq (.ops [(oP 2 (.mv (.c (.bool true))))])
 .ret)))))))
theorem F21:FI 21 1 50 6 [.tmp 2] c21:=mkF Tryz.f21 Tryz.func21
def Rt.zero:Rt:=⟨0,0,0,Dg.zero,0,0⟩
theorem eq_rec (a b:Str) (ha:a.length=64) (hb:b.length=64):eqA Tryz.prog 20 tRec (.agg (a.map u8)) (.agg (b.map u8))=some (decide (a=b)):=by
 have e0:Tryz.prog.underlying tRec=some (.array 64 5):=by kernel_rfl
 obtain ⟨d,e1,e2⟩ : ∃ d,ti Tryz.prog 5=some d ∧ (za9 d.desc=false ∧ d.size=1):=by
  have:(ti Tryz.prog 5).map (fun d=>(za9 d.desc,d.size))=some (false,1):=by kernel_rfl
  obtain ⟨d,h1,h2⟩:=Option.map_eq_some_iff.1 this
  simp only [Prod.mk.injEq] at h2
  exact ⟨d,h1,h2⟩
 unfold eqA
 simp only [e0,e1]
 unfold zn9
 rw [if_pos ⟨e2.1,e2.2,by rw [List.length_map,ha],by rw [List.length_map,hb]⟩]
 simp only
 have e2:∀ (x y:UInt8),eqA Tryz.prog 19 5 (.int .u8 x.toNat) (.int .u8 y.toNat)=some (((x.toNat:Nat):Int)==y.toNat):=fun x y=>by kernel_rfl
 exact zep (fun x y=>by rw [e2,zqi]) a b (by rw [ha,hb])
section
variable {n:Nat}{h:zaa}
theorem zns {r:Rt}(h:zdr r=true):0 ≤ r.ver ∧ 0 ≤ r.root ∧ 0 ≤ r.count ∧ 0 ≤ r.list ∧ 0 ≤ r.pages:=by
 unfold zdr zg5 zfd at h
 simp only [Bool.and_eq_true,Bool.or_eq_true,decide_eq_true_eq,beq_iff_eq] at h
 omega
end
abbrev byC (s:Str):AB:=.cells 0 none (s.map u8) 0
def part (s:Str) (a w:Nat):Nat:=zaf ((s.drop a).take w)
def q5 (s:Str):Rt:=⟨part s 1 6,part s 7 4,part s 11 4,dgOf ((s.drop 15).take 16),part s 31 4,part s 35 4⟩
def hQ (s:Str):Nat → zaa
 | 0=>[za4 .zero,byC s,recC s,za4 .zero]
 | 1=>[za4 .zero,byC s,recC s,za4 ⟨part s 1 6,0,0,Dg.zero,0,0⟩,fB 1 6 137]
 | 2=>[za4 .zero,byC s,recC s,za4 ⟨part s 1 6,part s 7 4,0,Dg.zero,0,0⟩,fB 1 6 137,fB 7 4 138]
 | 3=>[za4 .zero,byC s,recC s,za4 ⟨part s 1 6,part s 7 4,part s 11 4,Dg.zero,0,0⟩,fB 1 6 137,fB 7 4 138,fB 11 4 139]
 | 4=>[za4 .zero,byC s,recC s,za4 ⟨part s 1 6,part s 7 4,part s 11 4,Dg.zero,part s 31 4,0⟩,fB 1 6 137,fB 7 4 138,fB 11 4 139,fB 31 4 140]
 | _=>[za4 .zero,byC s,recC s,za4 ⟨part s 1 6,part s 7 4,part s 11 4,Dg.zero,part s 31 4,part s 35 4⟩,fB 1 6 137,fB 7 4 138,fB 11 4 139,fB 31 4 140,fB 35 4 141]
set_option maxRecDepth 100000 in
theorem zs3 {m:Nat}(hm:1 ≤ m) (s:Str) (hs:s.length=64) {Q:Ex → LS → Prop}{st:LS}
  (hst:LS.sub ⟨[(2,.ptr 0 0 0),(4,.ptr 2 0 0),(5,.ptr 3 0 0),(16,.lst 3 [fA 1 6 137,fA 7 4 138,fA 11 4 139,fA 31 4 140,fA 35 4 141] true),(17,i64 5),(18,i64 0)],hQ s 0,[]⟩ st)
  (hE:∀ Lt,subL [(2,.ptr 0 0 0),(4,.ptr 2 0 0),(5,.ptr 3 0 0)] Lt → Q (.exit 0) ⟨Lt,hQ s 5,[]⟩) :
  OkR Tryz.prog (C m) cfg0.inl KK 48 6 (.loop (c17.lp 0)) st Q:=by
 refine za7 (by decide) rfl (α:=Nat) (fun j=>⟨[(2,.ptr 0 0 0),(4,.ptr 2 0 0),(5,.ptr 3 0 0),(16,.lst 3 [fA 1 6 137,fA 7 4 138,fA 11 4 139,fA 31 4 140,fA 35 4 141] true),(17,i64 5),(18,i64 j)],hQ s j,[]⟩) (fun j=>j ≤ 5) (fun j=>5-j) 0 hst (by decide) (by decide) ?_
 intro j hj
 have hjs:j=0 ∨ j=1 ∨ j=2 ∨ j=3 ∨ j=4 ∨ j=5:=by omega
 rcases hjs with rfl | rfl | rfl | rfl | rfl | rfl
 ·conv=>whnf
  refine ⟨by decide,rfl,_,rfl,_,rfl,?_⟩
  conv=>whnf
  refine stJ (by rfl) (xs:=[i64 1,i64 6,.fn (.func 137) [] []]) ?_
  conv=>whnf
  refine ldI (by rfl) ?_
  conv=>whnf
  refine ldI (by rfl) ?_
  conv=>whnf
  refine ldI (by rfl) ?_
  conv=>whnf
  refine cvI (by kernel_rfl) (zor hm 3) ?_
  conv=>whnf
  refine ⟨?_,?_⟩
  ·repeat' first | ((conv=>whnf)<;>done) | ((conv=>whnf)<;>(first | (refine ldI rfl ?_;rfl) | refine ⟨?_,?_⟩))
  conv=>whnf
  refine clI (zoe hm ⟨rfl,hs⟩ 1 6 (by decide) (by decide) (by decide)) ?_
  conv=>whnf
  refine ⟨?_,?_⟩
  ·repeat' first | ((conv=>whnf)<;>done) | ((conv=>whnf)<;>(first | (refine ldI rfl ?_;rfl) | refine ⟨?_,?_⟩))
  conv=>whnf
  refine stJ (by rfl) ?_
  conv=>whnf
  refine zI (z:=((0+1:Nat):Int)) (by decide) ?_
  exact nxI (0+1) (by decide) (by decide) ⟨⟨rfl,rfl,rfl,rfl,rfl,rfl⟩,rfl,rfl⟩
 ·conv=>whnf
  refine ⟨by decide,rfl,_,rfl,_,rfl,?_⟩
  conv=>whnf
  refine stJ (by rfl) (xs:=[i64 7,i64 4,.fn (.func 138) [] []]) ?_
  conv=>whnf
  refine ldI (by rfl) ?_
  conv=>whnf
  refine ldI (by rfl) ?_
  conv=>whnf
  refine ldI (by rfl) ?_
  conv=>whnf
  refine cvI (by kernel_rfl) (zoq hm 3) ?_
  conv=>whnf
  refine ⟨?_,?_⟩
  ·repeat' first | ((conv=>whnf)<;>done) | ((conv=>whnf)<;>(first | (refine ldI rfl ?_;rfl) | refine ⟨?_,?_⟩))
  conv=>whnf
  refine clI (zoe hm ⟨rfl,hs⟩ 7 4 (by decide) (by decide) (by decide)) ?_
  conv=>whnf
  refine ⟨?_,?_⟩
  ·repeat' first | ((conv=>whnf)<;>done) | ((conv=>whnf)<;>(first | (refine ldI rfl ?_;rfl) | refine ⟨?_,?_⟩))
  conv=>whnf
  refine stJ (by rfl) ?_
  conv=>whnf
  refine zI (z:=((1+1:Nat):Int)) (by decide) ?_
  exact nxI (1+1) (by decide) (by decide) ⟨⟨rfl,rfl,rfl,rfl,rfl,rfl⟩,rfl,rfl⟩
 ·conv=>whnf
  refine ⟨by decide,rfl,_,rfl,_,rfl,?_⟩
  conv=>whnf
  refine stJ (by rfl) (xs:=[i64 11,i64 4,.fn (.func 139) [] []]) ?_
  conv=>whnf
  refine ldI (by rfl) ?_
  conv=>whnf
  refine ldI (by rfl) ?_
  conv=>whnf
  refine ldI (by rfl) ?_
  conv=>whnf
  refine cvI (by kernel_rfl) (zop hm 3) ?_
  conv=>whnf
  refine ⟨?_,?_⟩
  ·repeat' first | ((conv=>whnf)<;>done) | ((conv=>whnf)<;>(first | (refine ldI rfl ?_;rfl) | refine ⟨?_,?_⟩))
  conv=>whnf
  refine clI (zoe hm ⟨rfl,hs⟩ 11 4 (by decide) (by decide) (by decide)) ?_
  conv=>whnf
  refine ⟨?_,?_⟩
  ·repeat' first | ((conv=>whnf)<;>done) | ((conv=>whnf)<;>(first | (refine ldI rfl ?_;rfl) | refine ⟨?_,?_⟩))
  conv=>whnf
  refine stJ (by rfl) ?_
  conv=>whnf
  refine zI (z:=((2+1:Nat):Int)) (by decide) ?_
  exact nxI (2+1) (by decide) (by decide) ⟨⟨rfl,rfl,rfl,rfl,rfl,rfl⟩,rfl,rfl⟩
 ·conv=>whnf
  refine ⟨by decide,rfl,_,rfl,_,rfl,?_⟩
  conv=>whnf
  refine stJ (by rfl) (xs:=[i64 31,i64 4,.fn (.func 140) [] []]) ?_
  conv=>whnf
  refine ldI (by rfl) ?_
  conv=>whnf
  refine ldI (by rfl) ?_
  conv=>whnf
  refine ldI (by rfl) ?_
  conv=>whnf
  refine cvI (by kernel_rfl) (zoo hm 3) ?_
  conv=>whnf
  refine ⟨?_,?_⟩
  ·repeat' first | ((conv=>whnf)<;>done) | ((conv=>whnf)<;>(first | (refine ldI rfl ?_;rfl) | refine ⟨?_,?_⟩))
  conv=>whnf
  refine clI (zoe hm ⟨rfl,hs⟩ 31 4 (by decide) (by decide) (by decide)) ?_
  conv=>whnf
  refine ⟨?_,?_⟩
  ·repeat' first | ((conv=>whnf)<;>done) | ((conv=>whnf)<;>(first | (refine ldI rfl ?_;rfl) | refine ⟨?_,?_⟩))
  conv=>whnf
  refine stJ (by rfl) ?_
  conv=>whnf
  refine zI (z:=((3+1:Nat):Int)) (by decide) ?_
  exact nxI (3+1) (by decide) (by decide) ⟨⟨rfl,rfl,rfl,rfl,rfl,rfl⟩,rfl,rfl⟩
 ·conv=>whnf
  refine ⟨by decide,rfl,_,rfl,_,rfl,?_⟩
  conv=>whnf
  refine stJ (by rfl) (xs:=[i64 35,i64 4,.fn (.func 141) [] []]) ?_
  conv=>whnf
  refine ldI (by rfl) ?_
  conv=>whnf
  refine ldI (by rfl) ?_
  conv=>whnf
  refine ldI (by rfl) ?_
  conv=>whnf
  refine cvI (by kernel_rfl) (zon hm 3) ?_
  conv=>whnf
  refine ⟨?_,?_⟩
  ·repeat' first | ((conv=>whnf)<;>done) | ((conv=>whnf)<;>(first | (refine ldI rfl ?_;rfl) | refine ⟨?_,?_⟩))
  conv=>whnf
  refine clI (zoe hm ⟨rfl,hs⟩ 35 4 (by decide) (by decide) (by decide)) ?_
  conv=>whnf
  refine ⟨?_,?_⟩
  ·repeat' first | ((conv=>whnf)<;>done) | ((conv=>whnf)<;>(first | (refine ldI rfl ?_;rfl) | refine ⟨?_,?_⟩))
  conv=>whnf
  refine stJ (by rfl) ?_
  conv=>whnf
  refine zI (z:=((4+1:Nat):Int)) (by decide) ?_
  exact nxI (4+1) (by decide) (by decide) ⟨⟨rfl,rfl,rfl,rfl,rfl,rfl⟩,rfl,rfl⟩
 ·conv=>whnf
  exact hE _ ⟨rfl,rfl,rfl⟩
def z2c:RC:=match c17 with
 | .seq _ (.seq _ (.seq _ (.seq _ (.seq _ (.cut x)))))=>x
 | _=>.skip
def parR (s:Str):AV:=if s.length=64 ∧ zdr (q5 s)=true ∧ y7 (q5 s)=s then .tup [(q5 s).av,i64 0] else .tup [Rt.zero.av,i64 8]
set_option maxRecDepth 100000 in
theorem zs2 {m:Nat}(hm:2 ≤ m) (s:Str) (hs:s.length=64):Wp Tryz.prog (C m) cfg0.inl KK 48 6 z2c ⟨[(2,.ptr 0 0 0),(4,.ptr 2 0 0),(5,.ptr 3 0 0)],hQ s 5,[]⟩ (RetQ Tryz.prog [.cell 2 zez,.tmp 3] fun v' h'=>frz h' 64 v'=some (parR s)):=by
 have hp:∃ q:Rt,q5 s=q ∧ ((s.map u8).drop 15).take 16=q.sum.list.map u8 ∧ hQ s 5=[za4 .zero,byC s,recC s,za4 ⟨q.ver,q.root,q.count,Dg.zero,q.list,q.pages⟩,fB 1 6 137,fB 7 4 138,fB 11 4 139,fB 31 4 140,fB 35 4 141]:=by
  refine ⟨_,rfl,?_,rfl⟩
  have:(dgOf ((s.drop 15).take 16)).bytes=(s.drop 15).take 16:=zlt _ (by simp;omega)
  show _=(dgOf ((s.drop 15).take 16)).bytes.map u8
  rw [this,List.map_take,List.map_drop]
 obtain ⟨q,hq,hsum,hh⟩:=hp
 rw [hh]
 generalize fB 1 6 137=f1
 generalize fB 7 4 138=f2
 generalize fB 11 4 139=f3
 generalize fB 31 4 140=f4
 generalize fB 35 4 141=f5
 unfold parR
 rw [hq]
 have l5:(s.map u8).length=64:=by rw [List.length_map,hs]
 have ec:cpyR [za4 .zero,byC s,recC s,za4 ⟨q.ver,q.root,q.count,Dg.zero,q.list,q.pages⟩,f1,f2,f3,f4,f5] 1 (.sl 1 3 0 3 16) (.sl 1 2 0 15 49)=some (.int .i64 16,some [za4 .zero,byC s,recC s,za4 q,f1,f2,f3,f4,f5]):=by
  have g2:([za4 .zero,byC s,recC s,za4 ⟨q.ver,q.root,q.count,Dg.zero,q.list,q.pages⟩,f1,f2,f3,f4,f5]:zaa)[2]?=some (recC s):=rfl
  have g3:([za4 .zero,byC s,recC s,za4 ⟨q.ver,q.root,q.count,Dg.zero,q.list,q.pages⟩,f1,f2,f3,f4,f5]:zaa)[3]?=some (za4 ⟨q.ver,q.root,q.count,Dg.zero,q.list,q.pages⟩):=rfl
  unfold cpyR
  simp only [ziz,lenA]
  rw [show min 49 16=16 from rfl,zmw _ g2 (show 16 ≤ 49 by decide) (by rw [l5];decide)]
  simp only
  rw [if_neg (by decide),g3,hsum]
  simp only
  rw [if_pos ⟨trivial,trivial,Nat.zero_le _,by show 3+16 ≤ 21;decide,zec _⟩]
  rfl
 clear hq hsum hh
 have ck:=fun h:zaa=>zo5 (n:=m) (by omega) (h:=h) q
 conv=>whnf
 refine ⟨_,_,_,rfl,⟨show 0+1+2+16*1 ≤ 21 by decide,by decide⟩,?_⟩
 refine slI (v:=.sl 1 3 0 3 16) rfl ?_
 conv=>whnf
 refine ⟨_,_,_,rfl,⟨by rw [l5];decide,by decide⟩,?_⟩
 refine slI (v:=.sl 1 2 0 15 49) rfl ?_
 conv=>whnf
 refine ⟨_,ec,?_⟩
 conv=>whnf
 refine ⟨?_,?_⟩
 ·conv=>whnf
  refine ⟨?_,?_⟩
  ·conv=>whnf
   refine ⟨_,_,_,rfl,⟨by rw [l5];decide,by decide⟩,?_⟩
   exact slI (v:=.sl 1 2 0 15 49) rfl rfl
  conv=>whnf
  refine ⟨_,_,_,rfl,⟨show 0+1+2+16*1 ≤ 21 by decide,by decide⟩,?_⟩
  exact slI (v:=.sl 1 3 0 3 16) rfl rfl
 conv=>whnf
 refine ldI rfl ?_
 conv=>whnf
 cases ok:zdr q with
 | false =>
  rw [ok] at ck
  rw [if_neg (by simp)]
  refine clI (ck _) ?_
  conv=>whnf
  refine stJ (by rfl) ?_
  exact ⟨rfl,[Rt.zero.av,i64 8],rfl,rfl⟩
 | true =>
  rw [ok] at ck
  obtain ⟨v0,v1,v2,v3,v4⟩:=zns ok
  have rr:=fun h:zaa=>zpu (n:=m) (by omega) (h:=h) q v0 v1 v2 v3 v4
  have ly:=y7_len q
  generalize y7 q=Y at rr ly ⊢
  have er:=eq_rec Y s ly hs
  by_cases e:Y=s
  ·rw [if_pos ⟨hs,rfl,e⟩]
   rw [show decide (Y=s)=true by simp [e]] at er
   refine clI (ck _) ?_
   conv=>whnf
   refine ldI rfl ?_
   conv=>whnf
   refine clI (rr _) ?_
   conv=>whnf
   refine ldI rfl ?_
   refine zdp (zgy l5) ?_
   conv=>whnf
   refine eqI er ?_
   conv=>whnf
   refine ldI rfl ?_
   conv=>whnf
   refine stJ (by rfl) ?_
   exact ⟨rfl,[q.av,i64 0],rfl,rfl⟩
  ·rw [if_neg (fun h=>e h.2.2)]
   rw [show decide (Y=s)=false by simp [e]] at er
   refine clI (ck _) ?_
   conv=>whnf
   refine ldI rfl ?_
   conv=>whnf
   refine clI (rr _) ?_
   conv=>whnf
   refine ldI rfl ?_
   refine zdp (zgy l5) ?_
   conv=>whnf
   refine eqI er ?_
   conv=>whnf
   refine stJ (by rfl) ?_
   exact ⟨rfl,[Rt.zero.av,i64 8],rfl,rfl⟩
set_option maxRecDepth 100000 in
theorem zrl {n:Nat}(hn:3 ≤ n) {h:zaa}(s:Str) (hl:s.length<1099511627776):C n 17 [.str s] h=some (.ret (parR s),h):=by
 obtain ⟨m,rfl⟩:=pre1 n
 refine zak F17 rfl rfl rfl rfl ?_
 by_cases hs:s.length=64
 ·have l5:(s.map u8).length=64:=by rw [List.length_map,hs]
  have hput:putAt (z64.map u8) 0 (s.map u8)=s.map u8:=by
   unfold putAt
   rw [List.take_zero,List.nil_append,List.drop_of_length_le (by rw [l5];decide),List.append_nil]
  conv=>whnf
  refine brq (fun a=>absurd hs (by omega)) (fun _=>?_)
  conv=>whnf
  refine ⟨by omega,?_⟩
  conv=>whnf
  refine ldI rfl ?_
  refine zdp (zgy l5) ?_
  conv=>whnf
  refine stI (xs:=s.map u8) (cs:=z64.map u8) rfl (zen (zec _)) l5 (by rw [l5];rfl) (by rfl) ?_
  rw [hput]
  conv=>whnf
  refine clI (zom (by omega)) ?_
  conv=>whnf
  refine zs3 (by omega) s hs ⟨⟨rfl,rfl,rfl,rfl,rfl,rfl⟩,rfl,rfl⟩ (fun L hL=>?_)
  conv=>whnf
  refine cutI (by decide) rfl (t:=⟨[(2,.ptr 0 0 0),(4,.ptr 2 0 0),(5,.ptr 3 0 0)],hQ s 5,[]⟩) ⟨hL,rfl,rfl⟩ ?_
  exact zs2 (by omega) s hs
 ·unfold parR
  rw [if_neg (fun h=>hs h.1)]
  conv=>whnf
  refine brq (fun _=>?_) (fun a=>absurd a (by omega))
  conv=>whnf
  refine stJ (by rfl) ?_
  exact ⟨rfl,[Rt.zero.av,i64 8],rfl,rfl⟩
theorem zgg {A M B Ys xs:Str}{k:Nat}(hx:xs=A++(M++B)) (hA:A.length=k) (hM:M.length=Ys.length):lay xs k Ys=A++(Ys++B):=by
 subst hx
 unfold lay
 rw [List.take_append_of_le_length (by omega),List.take_of_length_le (by omega),← hA,List.drop_append,List.drop_of_length_le (by omega),List.nil_append,Nat.add_sub_cancel_left,List.drop_append,List.drop_of_length_le (by omega),List.nil_append,hM,Nat.sub_self,List.drop_zero,List.append_assoc]
def zcj (r:Rt):Str:=82::(num r.ver.toNat 6++(num r.root.toNat 4++(num r.count.toNat 4++(r.sum.list++(num r.list.toNat 4++(num r.pages.toNat 4++zau 20))))))
def recL (r:Rt):Str:=zcj r++(num (crc (zcj r)).toNat 4++[82])
theorem zi6 (r:Rt):(zcj r).length=59:=by
 unfold zcj
 simp only [List.length_cons,List.length_append,zal,zaw]
 rfl
theorem zub (r:Rt):y7 r=recL r:=by
 obtain ⟨V,hV,v⟩ : ∃ V,num r.ver.toNat 6=V ∧ V.length=6:=⟨_,rfl,zal _ _⟩
 obtain ⟨R,hR,u⟩ : ∃ R,num r.root.toNat 4=R ∧ R.length=4:=⟨_,rfl,zal _ _⟩
 obtain ⟨K,hK,k⟩ : ∃ K,num r.count.toNat 4=K ∧ K.length=4:=⟨_,rfl,zal _ _⟩
 obtain ⟨L,hL,l⟩ : ∃ L,num r.list.toNat 4=L ∧ L.length=4:=⟨_,rfl,zal _ _⟩
 obtain ⟨P,hP,p⟩ : ∃ P,num r.pages.toNat 4=P ∧ P.length=4:=⟨_,rfl,zal _ _⟩
 obtain ⟨S,hS,t⟩ : ∃ S,r.sum.list=S ∧ S.length=16:=⟨_,rfl,rfl⟩
 have e0:x0=[82]++(zau 6++(zau 4++(zau 4++(zau 16++(zau 4++(zau 4++(zau 20++(zau 4++[82])))))))):=rfl
 have e1:y1 r=[82]++(V++(zau 4++(zau 4++(zau 16++(zau 4++(zau 4++(zau 20++(zau 4++[82])))))))):=by
  unfold y1;rw [hV];exact zgg e0 rfl (by rw [zaw,v])
 have e2:y2 r=[82]++(V++(R++(zau 4++(zau 16++(zau 4++(zau 4++(zau 20++(zau 4++[82])))))))):=by
  unfold y2;rw [hR,zgg (A:=[82]++V) (M:=zau 4) (by rw [e1];simp only [List.append_assoc];rfl) (by simp [v]) (by rw [zaw,u])];simp only [List.append_assoc]
 have e3:y3 r=[82]++(V++(R++(K++(zau 16++(zau 4++(zau 4++(zau 20++(zau 4++[82])))))))):=by
  unfold y3;rw [hK,zgg (A:=[82]++(V++R)) (M:=zau 4) (by rw [e2];simp only [List.append_assoc];rfl) (by simp [v,u]) (by rw [zaw,k])];simp only [List.append_assoc]
 have e4:y4 r=[82]++(V++(R++(K++(zau 16++(L++(zau 4++(zau 20++(zau 4++[82])))))))):=by
  unfold y4;rw [hL,zgg (A:=[82]++(V++(R++(K++zau 16)))) (M:=zau 4) (by rw [e3];simp only [List.append_assoc];rfl) (by simp [v,u,k,zaw]) (by rw [zaw,l])];simp only [List.append_assoc]
 have e5:y5 r=[82]++(V++(R++(K++(zau 16++(L++(P++(zau 20++(zau 4++[82])))))))):=by
  unfold y5;rw [hP,zgg (A:=[82]++(V++(R++(K++(zau 16++L))))) (M:=zau 4) (by rw [e4];simp only [List.append_assoc];rfl) (by simp [v,u,k,l,zaw]) (by rw [zaw,p])];simp only [List.append_assoc]
 have e6:y6 r=[82]++(V++(R++(K++(S++(L++(P++(zau 20++(zau 4++[82])))))))):=by
  unfold y6;rw [hS,zgg (A:=[82]++(V++(R++K))) (M:=zau 16) (by rw [e5];simp only [List.append_assoc];rfl) (by simp [v,u,k]) (by rw [zaw,t])];simp only [List.append_assoc]
 have eb:zcj r=[82]++(V++(R++(K++(S++(L++(P++zau 20)))))):=by
  unfold zcj;rw [hV,hR,hK,hS,hL,hP];rfl
 have ec:y6 r=zcj r++(zau 4++[82]):=by rw [e6,eb];simp only [List.append_assoc]
 have lb:=zi6 r
 unfold y7 recL
 rw [show (y6 r).take 59=zcj r by rw [ec,List.take_append_of_le_length (by omega),List.take_of_length_le (by omega)]]
 exact zgg ec lb (by rw [zaw,zal])
section
variable {n:Nat}{h:zaa}
theorem zz4 (hn:1 ≤ n) (a b:Int):C n 101 [i64 a,i64 b] h=some (.ret (.bool (zg5 b a)),h):=by
 obtain ⟨m,rfl⟩:=pre1 n
 refine zak F101 rfl rfl rfl rfl ?_
 repeat' (conv=>whnf);first
  | refine brd (fun _=>?_) (fun _=>?_)
  | refine retP rfl (zas ?_)
 all_goals simp_all [zg5]
 all_goals omega
theorem zy7 (hn:2 ≤ n) (r:Rt):C n 60 [r.av] h=some (.ret (.bool (zdr r)),h):=by
 obtain ⟨m,rfl⟩:=pre1 n
 refine zak F60 rfl rfl rfl rfl ?_
 repeat' (conv=>whnf);first
  | refine brd (fun _=>?_) (fun _=>?_)
  | refine brq (fun _=>?_) (fun _=>?_)
  | refine brn (fun _=>?_) (fun _=>?_)
  | refine br (fun _=>?_) (fun _=>?_)
  | refine ldI rfl ?_
  | refine clI (zz4 (by omega) _ _) ?_
  | refine eqI (zw2 r) ?_
  | refine retP rfl (zas ?_)
 all_goals simp_all [zdr]
 all_goals try omega
 all_goals first
  | (have e:zfd r=true:=by { unfold zfd;simp_all;done });simp_all;done
  | (have e:zfd r=false:=by { unfold zfd;simp_all;done });simp only [e];done
  | (have e:zfd r=false:=by { unfold zfd;simp_all;done });rw [e];first
   | exact ⟨rfl,fun _=>by omega⟩
   | rw [Bool.false_or];exact decide_eq_decide.2 (by omega)
theorem zsj (hn:1 ≤ n):C n 62 [i64 20] h=some (.ret (.str (zau 20)),h):=by
 obtain ⟨m,rfl⟩:=pre1 n
 refine zak F62 rfl rfl rfl rfl ?_
 conv=>whnf
 refine ⟨by decide,by decide,by decide,?_⟩
 conv=>whnf
 refine ⟨_,zau 20,?_,zbx _,?_⟩
 ·exact zmv (h:=[AB.cells 0 (some 5) ((zau 20).map u8) 0]) (bb:=0) (ver:=0) (el:=some 5) (s:=zau 20) (frz:=0) rfl
 conv=>whnf
 exact retP rfl rfl
theorem zyh (hn:1 ≤ n) (s:Str) (hs:s.length ≤ 6):C n 66 [.str s] h=some (.ret (i64 (zaf s)),h):=by
 obtain ⟨m,rfl⟩:=pre1 n
 refine zak F66 rfl rfl rfl rfl ?_
 conv=>whnf
 refine za7 (by decide) rfl (α:=Nat) (fun j=>⟨[(0,.str s),(3,i64 (zaf (s.take j))),(4,i64 j)],[],[]⟩) (fun j=>j ≤ s.length) (fun j=>s.length-j) 0 ⟨⟨rfl,rfl,rfl⟩,rfl,rfl⟩ (Nat.zero_le _) (by simp only [KK];omega) ?_
 intro j hj
 conv=>whnf
 refine brd (fun a=>?_) (fun a=>?_)
 ·have hjs:j<s.length:=by omega
  have hb:=zb6 j (s.take j) (by rw [List.length_take];omega)
  have hb2:256 ^ j ≤ 256 ^ 5:=Nat.pow_le_pow_right (by decide) (by omega)
  have h5:(256:Nat) ^ 5=1099511627776:=by decide
  have hst:zaf (s.take j)*256+(s[j]).toNat=zaf (s.take (j+1)):=by
   rw [List.take_succ_eq_append_getElem hjs,zgp]
  have hc:=(s[j]).toNat_lt
  conv=>whnf
  refine zI (z:=((zaf (s.take j)*256:Nat):Int)) (by rw [zad (by omega) (by omega)];omega) ?_
  conv=>whnf
  refine strI (b:=s[j]) (by omega) (by rw [Int.toNat_natCast];exact List.getElem?_eq_getElem hjs) ?_
  conv=>whnf
  refine zI (z:=((s[j]).toNat:Int)) (zad (by omega) (by omega)) ?_
  conv=>whnf
  refine zI (z:=((zaf (s.take (j+1)):Nat):Int)) (by rw [zad (by omega) (by omega)];omega) ?_
  conv=>whnf
  refine zJ j ?_
  exact nxI (j+1) hjs (by omega) ⟨⟨rfl,rfl,rfl⟩,rfl,rfl⟩
 ·have hjs:j=s.length:=by omega
  subst hjs
  conv=>whnf
  refine cutI (by decide) rfl (t:=⟨[(3,i64 (zaf s))],[],[]⟩) ⟨by rw [List.take_length];rfl,rfl,rfl⟩ ?_
  conv=>whnf
  exact retP rfl rfl
end
abbrev tFF:Nat:=217
abbrev tWri5:Nat:=165
abbrev zcy (e:Int):AV:=.ifc tFF (.agg [i64 e])
abbrev wriC (d:Dk):AB:=.cells 0 (some tWri5) d.cells 0
section
variable {n:Nat}{h hp:zaa}
theorem zqg (hn:1 ≤ n):C n 98 [i64 0] h=some (.ret (.tup []),h):=by
 obtain ⟨m,rfl⟩:=pre1 n
 refine zak F98 rfl rfl rfl rfl ?_
 conv=>whnf
 exact ⟨rfl,[],rfl,rfl⟩
theorem zqh (hn:1 ≤ n) (e:Int) (he:e≠0):C n 98 [i64 e] h=some (.pan (zcy e),h):=by
 obtain ⟨m,rfl⟩:=pre1 n
 refine zcw F98 rfl rfl rfl rfl ?_
 conv=>whnf
 refine brq (fun _=>?_) (fun a=>absurd a he)
 conv=>whnf
 exact ⟨zcy e,rfl,rfl⟩
theorem z2o (hn:1 ≤ n) (e:Int):C n 80 [.bool true,i64 e] h=some (.ret (.tup []),h):=by
 obtain ⟨m,rfl⟩:=pre1 n
 refine zak F80 rfl rfl rfl rfl ?_
 conv=>whnf
 exact ⟨rfl,[],rfl,rfl⟩
theorem z2p (hn:2 ≤ n) (e:Int) (he:e≠0):C n 80 [.bool false,i64 e] h=some (.pan (zcy e),h):=by
 obtain ⟨m,rfl⟩:=pre1 n
 refine zcw F80 rfl rfl rfl rfl ?_
 conv=>whnf
 refine clP (zqh (by omega) e he) ?_
 conv=>whnf
 exact ⟨zcy e,rfl,rfl⟩
theorem z2k (hn:3 ≤ n) (d:Dk) (ok:d.Ok) (hr:zap d=true):C n 70 [d.av] hp=some (.ret (.ptr (hp.length+1) 0 0),hp++[dkC d]++[wriC d]):=by
 obtain ⟨m,rfl⟩:=pre1 n
 have cK:∀ h,C m 121 [d.av] h=some (.ret (i64 (if zap d then 0 else 2)),h):=fun h=>zjz (by omega) d ok
 rw [hr] at cK
 refine za2 F70 rfl rfl ?_
 conv=>whnf
 refine ldI (zag _ _) ?_
 conv=>whnf
 refine clI (cK _) ?_
 conv=>whnf
 refine clI (zqg (by omega)) ?_
 conv=>whnf
 refine ldI (zag _ _) ?_
 conv=>whnf
 refine ⟨rfl,[.ptr (hp++[dkC d]).length 0 0],rfl,?_,rfl⟩
 rw [List.length_append]
 rfl
def zar (d:Dk):Nat:=d.secs.length / 8
theorem zzc (k:Nat):((k:Int)).tdiv 8=((k / 8:Nat):Int):=by
 rw [Int.tdiv_eq_ediv_of_nonneg (by omega)];omega
theorem zij (hn:1 ≤ n) (d:Dk) {w:Nat}(hw:hp[w]?=some (wriC d)) (hl:d.secs.length ≤ 1099511627776):C n 91 [.ptr w 0 0] hp=some (.ret (i64 (zar d)),hp):=by
 obtain ⟨m,rfl⟩:=pre1 n
 have e1:(d.secs.map AV.str).length=d.secs.length:=List.length_map ..
 refine za2 F91 rfl rfl ?_
 conv=>whnf
 refine ldI hw ?_
 conv=>whnf
 refine ⟨by decide,(zar d:Int),by rw [e1,zzc,zad (by omega) (by omega)];rfl,?_⟩
 exact ⟨rfl,[i64 (zar d)],rfl,rfl,rfl⟩
theorem zu8 (hn:1 ≤ n) (d:Dk) (hl:d.secs.length ≤ 1099511627776):C n 75 [d.av] h=some (.ret (i64 (zar d)),h):=by
 obtain ⟨m,rfl⟩:=pre1 n
 have e1:(d.secs.map AV.str).length=d.secs.length:=List.length_map ..
 refine zak F75 rfl rfl rfl (by simp [zan,zb0]) ?_
 conv=>whnf
 refine ldI rfl ?_
 conv=>whnf
 refine ⟨by decide,(zar d:Int),by rw [e1,zzc,zad (by omega) (by omega)];rfl,?_⟩
 exact ⟨rfl,[i64 (zar d)],rfl,rfl⟩
theorem ze9 {L:LT}{h:zaa}{b:Nat}{cs:List AV}{k:Int}(h4:lk L 4=some (.ptr b 0 0)) (h5:lk L 5=some (i64 k)) (hP:h[b]?=some (.cells 0 (some 79) cs 0)) (hc:cs.length=10):zb3 Tryz.prog L h [.cell 4 79,.tmp 5]=some [.agg cs,i64 k]:=by
 simp only [zb3,h4,h5,zho hc hP]
section
variable {m:Nat}{d:Dk}{hp:zaa}{w no:Nat}
abbrev zPgB:AB:=.cells 0 (some 79) zbr 0
theorem zsk (hm:6 ≤ m) (ok:d.Ok) (hr:zap d=true) (hno:no<zar d) (hw:hp[w]?=some (wriC d)) (hc:za1 d (no*8) 8=false) :
  ∃ v h',C (m+1) 93 [.ptr w 0 0,i64 no] hp=some (.ret v,h') ∧ v=.tup [zPage.av,i64 8] ∧ Keep hp h' []:=by
 have lw:=zac hw
 have hz:=(rightD_iff.1 hr).1
 have hn8:no*8+8 ≤ d.secs.length:=by unfold zar at hno;omega
 refine zcp F93 rfl rfl ?_
 conv=>whnf
 refine ldI (za8 hw) ?_
 conv=>whnf
 refine zI (z:=((no*8:Nat):Int)) (by rw [zad (by omega) (by omega)];omega) ?_
 conv=>whnf
 have cR:=fun h=>zio (n:=m) (h:=h) (by omega) d ok hr (no*8) 8 (by omega) (by omega) hn8
 unfold zg0 at cR
 rw [hc] at cR
 refine clI (cR _) ?_
 conv=>whnf
 refine stJ (xs:=zbr) (zag _ _) ?_
 exact ⟨rfl,_,ze9 rfl rfl (zae _ _ _) rfl,rfl,(Keep.app hp _ []).set' (.inr (Nat.le_refl _))⟩
theorem zna (hm:10 ≤ m) (ok:d.Ok) (hr:zap d=true) (hno:no<zar d) (hw:hp[w]?=some (wriC d)) (hc:za1 d (no*8) 8=true) {q:Page}{k:Int}(cD:∀ h,C m 162 [.str (zbt d (no*8) 8)] h=some (.ret (.tup [q.av,i64 k]),h)) {V:AV}(hV:V=if k=0 ∧ q.no=no then .tup [q.av,i64 0] else .tup [zPage.av,i64 8]) :
  ∃ v h',C (m+1) 93 [.ptr w 0 0,i64 no] hp=some (.ret v,h') ∧ v=V ∧ Keep hp h' []:=by
 have lw:=zac hw
 have hz:=(rightD_iff.1 hr).1
 have hn8:no*8+8 ≤ d.secs.length:=by unfold zar at hno;omega
 refine zcp F93 rfl rfl ?_
 conv=>whnf
 refine ldI (za8 hw) ?_
 conv=>whnf
 refine zI (z:=((no*8:Nat):Int)) (by rw [zad (by omega) (by omega)];omega) ?_
 conv=>whnf
 have cR:=fun h=>zio (n:=m) (h:=h) (by omega) d ok hr (no*8) 8 (by omega) (by omega) hn8
 unfold zg0 at cR
 rw [hc] at cR
 refine clI (cR _) ?_
 conv=>whnf
 refine clI (cD _) ?_
 conv=>whnf
 refine stJ (xs:=q.cells) (zag _ _) ?_
 have k1:∀ x y,Keep hp ((hp++[zPgB]++[x]).set (hp++[zPgB]).length y) []:=fun x y=>((Keep.app hp _ []).trans (Keep.app _ _ []) (by simp)).set' (.inr (by simp))
 have g1:∀ x y,((hp++[zPgB]++[x]).set (hp++[zPgB]).length y)[hp.length]?=some zPgB:=fun x y=>by
  rw [List.getElem?_set_ne (by simp),List.getElem?_append_left (by simp)];exact zag _ _
 conv=>whnf
 refine brq (fun c1=>?_) (fun c1=>?_)
 ·rw [if_neg (fun e=>c1 e.1)] at hV
  subst hV
  conv=>whnf
  refine stJ (xs:=zbr) (g1 _ _) ?_
  exact ⟨rfl,_,ze9 rfl rfl (List.getElem?_set_self (zac (g1 _ _))) rfl,rfl,(k1 _ _).set' (.inr (Nat.le_refl _))⟩
 ·conv=>whnf
  refine ldI (zae _ _ _) ?_
  conv=>whnf
  refine brq (fun c2=>?_) (fun c2=>?_)
  ·rw [if_neg (fun e=>c2 e.2)] at hV
   subst hV
   conv=>whnf
   refine stJ (xs:=zbr) (g1 _ _) ?_
   exact ⟨rfl,_,ze9 rfl rfl (List.getElem?_set_self (zac (g1 _ _))) rfl,rfl,(k1 _ _).set' (.inr (Nat.le_refl _))⟩
  ·rw [if_pos ⟨c1,c2⟩] at hV
   subst hV
   conv=>whnf
   refine ldI (zae _ _ _) ?_
   conv=>whnf
   refine stJ (xs:=q.cells) (g1 _ _) ?_
   exact ⟨rfl,_,ze9 rfl rfl (List.getElem?_set_self (zac (g1 _ _))) rfl,rfl,(k1 _ _).set' (.inr (Nat.le_refl _))⟩
end
end
def c89:RC :=
 (.seq (.ops [(oP 2 (.alloc 79 zPl)),(oP 3 (.alloc 29 [(.int .i64 0)]))])
 (.seq (.ops [(oP 4 (.mkFn (.func 160) [] [(.t 2),(.t 3)])),
 ⟨none,none,.dfr { callee:=.value (.tmp 4),args:=#[],argTypes:=#[] }⟩])
 (.seq (.ops [(mV 5 0),(oP 6 (.callV (.t 5) [])),(oT 10 2 6),(oU (.store 1 (.t 3) (.c (.int .i64 0))))])
 .ret)))
theorem F89:FI 89 1 7 4 [.cell 2 79,.cell 3 29] c89:=mkF Tryz.f89 Tryz.func89
def c160:RC :=
 (.seq (.ops [(oP 6 (.raw { dst:=(some 6),op:=(.call { callee:=.builtin .recover,args:=#[],argTypes:=#[] }),type:=20,pos := "file.go:40",after:=#[],guard:=none }))])
 (.block 0
 (.seq (.ops [(oP 8 (.isNilI false (.t 6)))])
 (.cond (.t 8)
 (.ops [(mV 2 6)])
 (.seq (.ops [(oP 9 (.asrt 217 true true (.t 6))),(oQ 10 9 1),(oQ 11 9 0)])
 (.cond (.t 10)
 (.seq (.ops [(oP 3 (.alloc 217 [(.int .i64 0)])),(oT 1 3 11)])
 (.seq (.ops [(oP 4 (.alloc 79 zPl))])
 (.draw [((oB 12 10 4),1),((oC 13 0 3),0),((oA 14 13),1),((oT 10 0 12),2),((oT 1 1 14),3)])))
 (.seq (.ops [(mV 5 6)])
 (.ops [(mV 7 5),
 ⟨none,none,.pan (.t 7)⟩]))))))))
def c33:RC :=
 (.seq (.ops [(oP 2 (.box 46 (.t 0))),(oP 3 (.box 3 (.t 1))),(oP 4 (.alloc 79 zPl)),(oH 5 0)])
 (.seq (.ops [(oP 6 (.mkFn (.func 90) [] [(.t 2),(.t 3)])),(oV 7 89 6),(oQ 8 7 0),(oQ 9 7 1),(oT 10 4 8),(mV 5 9)])
 .ret))
theorem F33:FI 33 2 10 4 [.cell 4 79,.tmp 5] c33:=mkF Tryz.f33 Tryz.func33
def c90:RC :=
 (.seq (.ops [(oP 2 (.alloc 79 zPl))])
 (.seq (.ops [(oB 4 3 0),(oV 5 70 4),(mV 3 5)])
 (.seq (.draw [((oA 6 1),1),((oJ 7 .geq 6 2),0),((mV 8 7),0),((oD 9 8 true 1),1),((oE 10 8 true 3),0),((oG 11 8 true (.callF 91 [(.t 10)])),2),((oG 12 8 true (.bin .lss (.t 9) (.t 11))),0),((oN 13 8 12),0),((oP 14 (.callF 80 [(.t 13),(.c (.int .i64 1))])),4)])
 (.seq (.ops [(mV 15 3),(oA 16 1),(oW 17 93 15 16),(oQ 18 17 0),(oQ 19 17 1),(oW 20 92 18 19),(oT 10 2 20)])
 .ret))))
theorem F90:FI 90 2 21 5 [.cell 2 79] c90:=mkF Tryz.f90 Tryz.func90
def c92:RC :=
 (.seq (.ops [(oP 2 (.box 79 (.t 0))),(oP 4 (.alloc 79 zPl))])
 (.seq (.ops [(mV 5 1),(oV 6 98 5)])
 (.seq (.ops [(oB 7 10 2),(oT 10 4 7)])
 .ret)))
theorem F92:FI 92 2 8 4 [.cell 4 79] c92:=mkF Tryz.f92 Tryz.func92
def c104:RC :=
 (.seq (.ops [(oP 2 (.alloc 27 zRl)),(oP 3 (.alloc 29 [(.int .i64 0)]))])
 (.seq (.ops [(oP 4 (.mkFn (.func 168) [] [(.t 2),(.t 3)])),
 ⟨none,none,.dfr { callee:=.value (.tmp 4),args:=#[],argTypes:=#[] }⟩])
 (.seq (.ops [(mV 5 0),(oP 6 (.callV (.t 5) [])),(oT 21 2 6),(oU (.store 1 (.t 3) (.c (.int .i64 0))))])
 .ret)))
theorem F104:FI 104 1 7 4 [.cell 2 27,.cell 3 29] c104:=mkF Tryz.f104 Tryz.func104
def c168:RC :=
 (.seq (.ops [(oP 6 (.raw { dst:=(some 6),op:=(.call { callee:=.builtin .recover,args:=#[],argTypes:=#[] }),type:=20,pos := "file.go:40",after:=#[],guard:=none }))])
 (.block 0
 (.seq (.ops [(oP 8 (.isNilI false (.t 6)))])
 (.cond (.t 8)
 (.ops [(mV 2 6)])
 (.seq (.ops [(oP 9 (.asrt 217 true true (.t 6))),(oQ 10 9 1),(oQ 11 9 0)])
 (.cond (.t 10)
 (.seq (.ops [(oP 3 (.alloc 217 [(.int .i64 0)])),(oT 1 3 11)])
 (.seq (.ops [(oP 4 (.alloc 27 zRl))])
 (.draw [((oB 12 21 4),1),((oC 13 0 3),0),((oA 14 13),1),((oT 21 0 12),2),((oT 1 1 14),3)])))
 (.seq (.ops [(mV 5 6)])
 (.ops [(mV 7 5),
 ⟨none,none,.pan (.t 7)⟩]))))))))
def c41:RC :=
 (.seq (.ops [(oP 2 (.box 46 (.t 0))),(oP 3 (.box 3 (.t 1))),(oP 4 (.alloc 27 zRl)),(oH 5 0)])
 (.seq (.ops [(oP 6 (.mkFn (.func 105) [] [(.t 2),(.t 3)])),(oV 7 104 6),(oQ 8 7 0),(oQ 9 7 1),(oT 21 4 8),(mV 5 9)])
 .ret))
theorem F41:FI 41 2 10 4 [.cell 4 27,.tmp 5] c41:=mkF Tryz.f41 Tryz.func41
def c105:RC :=
 (.seq (.ops [(oP 2 (.alloc 27 zRl))])
 (.seq (.ops [(oB 4 3 0),(oV 5 70 4),(mV 3 5)])
 (.seq (.ops [(oA 6 1),(oJ 7 .eql 6 0),(mV 8 7),(oD 9 8 false 1),(oG 10 8 false (.bin .eql (.t 9) (.c (.int .i64 1)))),(oM 11 8 10),(oP 12 (.callF 80 [(.t 11),(.c (.int .i64 1))]))])
 (.seq (.ops [(mV 13 3),(oV 14 106 13)])
 (.seq (.ops [(mV 15 3),(oA 16 1),(oW 17 108 15 16),(oQ 18 17 0),(oQ 19 17 1),(oW 20 107 18 19),(oT 21 2 20)])
 .ret)))))
theorem F105:FI 105 2 21 5 [.cell 2 27] c105:=mkF Tryz.f105 Tryz.func105
def c106:RC :=
 (.ops [(mV 2 0),(oV 3 91 2),(oJ 4 .geq 3 2),(oP 5 (.callF 80 [(.t 4),(.c (.int .i64 1))]))])
theorem F106:FI 106 1 6 3 [] c106:=mkF Tryz.f106 Tryz.func106
def c108:RC :=
 (.seq (.ops [(oP 4 (.alloc 27 zRl)),(oH 5 0)])
 (.seq (.ops [(mV 10 0),(oR 11 10),(oC 12 0 11),(oB 13 3 12),(mV 14 1),(oJ 15 .mul 14 8),(oP 16 (.callF 161 [(.t 13),(.t 15),(.c (.int .i64 1))])),(mV 9 16),(oQ 17 9 0),(oQ 18 9 1),(mV 6 17),(mV 7 18)])
 (.seq (.seq (.ops [(mV 19 7),(oJ 20 .neq 19 0)])
 (.cond (.t 20)
 (.seq (.ops [(oP 21 (.build zRl [])),(oT 21 4 21),(oH 5 8)])
 .ret)
 .skip))
 (.seq (.ops [(mV 23 6),(oV 24 17 23),(mV 22 24),(oQ 25 22 0),(oQ 26 22 1),(oP 8 (.alloc 27 zRl)),(oT 21 8 25),(mV 7 26)])
 (.seq (.seq (.draw [((mV 27 7),0),((oJ 28 .neq 27 0),0),((mV 29 28),0),((oF 30 29 false 20 8),0),((oD 31 29 false 30),1),((oE 32 29 false 0),0),((oG 33 29 false (.callF 91 [(.t 32)])),2),((oG 34 29 false (.bin .gtr (.t 31) (.t 33))),0),((oM 35 29 34),0)])
 (.cond (.t 35)
 (.seq (.ops [(oP 36 (.build zRl [])),(oT 21 4 36),(oH 5 8)])
 .ret)
 .skip))
 (.seq (.ops [(oB 37 21 8),(oT 21 4 37),(oH 5 0)])
 .ret))))))
theorem F108:FI 108 2 38 6 [.cell 4 27,.tmp 5] c108:=mkF Tryz.f108 Tryz.func108
def c107:RC :=
 (.seq (.ops [(oP 2 (.box 27 (.t 0))),(oP 4 (.alloc 27 zRl))])
 (.seq (.ops [(mV 5 1),(oV 6 98 5)])
 (.seq (.ops [(oB 7 21 2),(oT 21 4 7)])
 .ret)))
theorem F107:FI 107 2 8 4 [.cell 4 27] c107:=mkF Tryz.f107 Tryz.func107
def c110:RC :=
 (.seq (.ops [(oP 2 (.box 46 (.t 0))),(oP 4 (.alloc 38 zRm))])
 (.seq (.ops [(oB 7 3 2),(mV 8 1),(oJ 9 .mul 8 8),(oP 10 (.callF 102 [(.t 7),(.t 9),(.c (.int .i64 1))])),(oP 5 (.alloc 187 [(.str []),(.int .i64 0)])),(oT 2 5 10)])
 (.seq (.seq (.ops [(oC 11 1 5),(oA 12 11),(oJ 13 .neq 12 0)])
 (.cond (.t 13)
 (.seq (.ops [(oP 14 (.build zRm [(21,1,(.c (.int .i64 8)))])),(oT 22 4 14)])
 .ret)
 .skip))
 (.seq (.ops [(oC 15 0 5),(oA 16 15),(oV 17 18 16),(oP 6 (.alloc 38 zRm)),(oT 22 6 17)])
 (.seq (.seq (.draw [((oC 18 21 6),0),((oA 19 18),1),((oJ 20 .neq 19 0),0),((mV 21 20),0),((oF 22 21 false 0 6),0),((oF 23 21 false 20 22),0),((oD 24 21 false 23),1),((oG 25 21 false (.load true 3 (.t 2))),1),((oG 26 21 false (.callF 75 [(.t 25)])),4),((oG 27 21 false (.bin .gtr (.t 24) (.t 26))),0),((oM 28 21 27),0)])
 (.cond (.t 28)
 (.seq (.ops [(oP 29 (.build zRm [(21,1,(.c (.int .i64 8)))])),(oT 22 4 29)])
 .ret)
 .skip))
 (.seq (.ops [(oB 30 22 6),(oT 22 4 30)])
 .ret))))))
theorem F110:FI 110 2 31 6 [.cell 4 38] c110:=mkF Tryz.f110 Tryz.func110
abbrev tText:Nat:=33
abbrev zyv:Nat:=38
section
variable {n:Nat}{h:zaa}
def z1p (r:Rt):AV:=if zdr r then .agg [.str (recL r),i64 0] else .agg [.str [],i64 2]
def zu7 (s:Str):AV:=if s.length=64 ∧ zdr (q5 s)=true ∧ recL (q5 s)=s then .agg ((q5 s).cells++[i64 0]) else .agg (Rt.zero.cells++[i64 8])
theorem zeb {L:LT}{h:zaa}{k b t N f:Nat}{el:Option TypeId}{cs:List AV}(hk:lk L k=some (.ptr b 0 0)) (ht:(ti Tryz.prog t).map (fun d=>(za9 d.desc,d.size))=some (true,N)) (hN:cs.length=N) (hb:h[b]?=some (.cells 0 el cs f)):zb3 Tryz.prog L h [.cell k t]=some [.agg cs]:=by
 simp only [zb3,hk,zbk ht hN hb]
theorem zyw (r:Rt) {j:Nat}(hj:j<16):r.cells[3+j]?=some (u8 (r.sum.list[j]'(hj))):=by
 have e:(r.cells.drop 3).take 16=r.sum.list.map u8:=rfl
 have:((r.cells.drop 3).take 16)[j]?=some (u8 (r.sum.list[j]'(hj))):=by
  rw [e,List.getElem?_map,List.getElem?_eq_getElem (h:=show j<r.sum.list.length from hj)]
  rfl
 rw [List.getElem?_take_of_lt hj,List.getElem?_drop] at this
 exact this
set_option maxRecDepth 100000 in
theorem znp {m:Nat}(r:Rt) (z:AB) {Q:Ex → LS → Prop}{st:LS}
  (hst:LS.sub ⟨[(1,.ptr 0 0 0),(2,.ptr 1 0 0),(3,.str []),(4,i64 0)],[za4 r,z],[]⟩ st)
  (hE:∀ Lt,subL [(1,.ptr 0 0 0),(2,.ptr 1 0 0),(3,.str r.sum.list)] Lt → Q (.exit 0) ⟨Lt,[za4 r,z],[]⟩) :
  OkR Tryz.prog (C m) cfg0.inl KK 57 6 (.loop (c16.lp 0)) st Q:=by
 have ls:r.sum.list.length=16:=rfl
 refine za7 (by decide) rfl (α:=Nat) (fun j=>⟨[(1,.ptr 0 0 0),(2,.ptr 1 0 0),(3,.str (r.sum.list.take j)),(4,i64 j)],[za4 r,z],[]⟩) (fun j=>j ≤ 16) (fun j=>16-j) 0 hst (by decide) (by decide) ?_
 intro j hj
 conv=>whnf
 refine brd (fun a=>?_) (fun a=>?_)
 ·have hj16:j<16:=by omega
  conv=>whnf
  refine ⟨by omega,by omega,?_⟩
  conv=>whnf
  refine ldI rfl ?_
  refine zdp (v:=u8 (r.sum.list[j]'(hj16))) (by show r.cells[0+1+2+((j:Nat):Int).toNat*1]?=_;rw [Int.toNat_natCast,Nat.mul_one];exact zyw r hj16) ?_
  conv=>whnf
  refine ⟨rfl,?_⟩
  conv=>whnf
  refine ⟨_,[r.sum.list[j]'(hj16)],zjs _ [r.sum.list[j]'(hj16)] true,zbx _,?_⟩
  conv=>whnf
  refine ⟨by simp;omega,?_⟩
  conv=>whnf
  refine zJ j ?_
  exact nxI (j+1) hj16 (by omega) ⟨⟨rfl,rfl,by rw [List.take_succ_eq_append_getElem (by omega:j<r.sum.list.length)];rfl,rfl⟩,rfl,rfl⟩
 ·have:j=16:=by omega
  subst this
  conv=>whnf
  exact hE _ ⟨rfl,rfl,rfl⟩
set_option maxRecDepth 100000 in
theorem zsr (hn:5 ≤ n) (r:Rt):C n 16 [r.av] h=some (.ret (z1p r),h):=by
 obtain ⟨m,rfl⟩:=pre1 n
 refine zak F16 rfl rfl rfl rfl ?_
 have ck:=fun h:zaa=>zy7 (n:=m) (by omega) (h:=h) r
 have cN:∀ (k:Int) (w:Nat) (h:zaa),0 ≤ k → k<9223372036854775808 → w ≤ 8 → C m 61 [i64 k,i64 w] h=some (.ret (.str (num k.toNat w)),h):=fun k w h h1 h2 h3=>by
  have:=znx (n:=m) (h:=h) (by omega) k.toNat w h3 (by omega)
  rwa [show ((k.toNat:Nat):Int)=k by omega] at this
 unfold z1p
 cases ok:zdr r with
 | false =>
  rw [ok] at ck
  conv=>whnf
  refine ldI rfl ?_
  conv=>whnf
  refine clI (ck _) ?_
  conv=>whnf
  refine stJ (by rfl) ?_
  exact ⟨rfl,_,zeb (el:=some tText) (f:=0) (cs:=[.str [],i64 2]) (N:=2) (b:=1) rfl (by kernel_rfl) rfl rfl,rfl⟩
 | true =>
  rw [ok] at ck
  obtain ⟨v0,v1,v2,v3,v4⟩:=zns ok
  have big:r.ver ≤ 1099511627776 ∧ r.root<4294967296 ∧ r.count<4294967296 ∧ r.list<4294967296 ∧ r.pages<4294967296:=by
   have h:=ok
   unfold zdr zg5 zfd at h
   simp only [Bool.and_eq_true,Bool.or_eq_true,decide_eq_true_eq,beq_iff_eq] at h
   omega
  conv=>whnf
  refine ldI rfl ?_
  conv=>whnf
  refine clI (ck _) ?_
  conv=>whnf
  refine znp r _ ⟨⟨rfl,rfl,rfl,rfl⟩,rfl,rfl⟩ (fun L hL=>?_)
  conv=>whnf
  refine cutI (by decide) rfl (t:=⟨[(1,.ptr 0 0 0),(2,.ptr 1 0 0),(3,.str r.sum.list)],_,[]⟩) ⟨hL,rfl,rfl⟩ ?_
  have nl:∀ (k:Int) (w:Nat),(num k.toNat w).length=w:=fun k w=>zal _ _
  have ls:r.sum.list.length=16:=rfl
  have lb:=zi6 r
  have lz:(zau 20).length=20:=zaw 20
  have hb:(((((([82]++num r.ver.toNat 6)++num r.root.toNat 4)++num r.count.toNat 4)++r.sum.list)++num r.list.toNat 4)++num r.pages.toNat 4)++zau 20=zcj r:=by
   unfold zcj;simp [List.append_assoc]
  have hL:((zcj r++num (crc (zcj r)).toNat 4)++[82])=recL r:=by unfold recL;simp [List.append_assoc]
  conv=>whnf
  refine ldI rfl ?_
  conv=>whnf
  refine clI (cN r.ver 6 _ (by omega) (by omega) (by omega)) ?_
  conv=>whnf
  refine ⟨by simp only [List.length_append,nl,ls];decide,?_⟩
  conv=>whnf
  refine ldI rfl ?_
  conv=>whnf
  refine clI (cN r.root 4 _ (by omega) (by omega) (by omega)) ?_
  conv=>whnf
  refine ⟨by simp only [List.length_append,nl,ls];decide,?_⟩
  conv=>whnf
  refine ldI rfl ?_
  conv=>whnf
  refine clI (cN r.count 4 _ (by omega) (by omega) (by omega)) ?_
  conv=>whnf
  refine ⟨by simp only [List.length_append,nl,ls];decide,?_⟩
  conv=>whnf
  refine ⟨by simp only [List.length_append,nl,ls];decide,?_⟩
  conv=>whnf
  refine ldI rfl ?_
  conv=>whnf
  refine clI (cN r.list 4 _ (by omega) (by omega) (by omega)) ?_
  conv=>whnf
  refine ⟨by simp only [List.length_append,nl,ls];decide,?_⟩
  conv=>whnf
  refine ldI rfl ?_
  conv=>whnf
  refine clI (cN r.pages 4 _ (by omega) (by omega) (by omega)) ?_
  conv=>whnf
  refine ⟨by simp only [List.length_append,nl,ls];decide,?_⟩
  conv=>whnf
  refine clI (zsj (by omega)) ?_
  conv=>whnf
  refine ⟨by simp only [List.length_append,nl,ls,lz];decide,?_⟩
  rw [hb]
  generalize zcj r=B at lb hL ⊢
  conv=>whnf
  refine clI (z2b (by omega) _ (by omega)) ?_
  conv=>whnf
  refine zI (z:=((crc B).toNat:Int)) (by have:=(crc B).toNat_lt;exact zad (by omega) (by omega)) ?_
  conv=>whnf
  refine clI (cN _ 4 _ (by omega) (by have:=(crc B).toNat_lt;omega) (by omega)) ?_
  conv=>whnf
  refine ⟨by rw [zal,lb];decide,?_⟩
  conv=>whnf
  refine ⟨by rw [List.length_append,zal,lb];decide,?_⟩
  rw [Int.toNat_natCast,hL]
  conv=>whnf
  refine stJ (xs:=[.str (recL r),i64 0]) (by rfl) ?_
  exact ⟨rfl,_,zeb (el:=some tText) (f:=0) (cs:=[.str (recL r),i64 0]) (N:=2) (b:=1) rfl (by kernel_rfl) rfl rfl,rfl⟩
def q0 (s:Str):Rt:=⟨part s 1 6,part s 7 4,part s 11 4,Dg.zero,part s 31 4,part s 35 4⟩
def rS (s:Str) (j:Nat):List AV:=([i64 (part s 1 6:Nat),i64 (part s 7 4:Nat),i64 (part s 11 4:Nat)]++(((s.drop 15).take 16).take j).map u8)++(List.replicate (16-j) (u8 0)++[i64 (part s 31 4:Nat),i64 (part s 35 4:Nat)])
theorem zvi {P R:List AV}{y x:AV}{k:Nat}(hk:k=P.length):putAt (P++(y::R)) k [x]=P++(x::R):=by
 subst hk
 unfold putAt
 simp
theorem rS_len (s:Str) (hs:s.length=64) (j:Nat) (hj:j ≤ 16):(rS s j).length=21:=by
 unfold rS
 simp only [List.length_append,List.length_cons,List.length_nil,List.length_map,List.length_take,List.length_drop,List.length_replicate]
 omega
theorem z2e (s:Str) (hs:s.length=64):rS s 16=(q5 s).cells:=by
 have lt:((s.drop 15).take 16).length=16:=by simp;omega
 unfold rS
 rw [List.take_of_length_le (l:=(s.drop 15).take 16) (by omega),← zls lt]
 rfl
theorem z2d (s:Str) (hs:s.length=64) {j:Nat}(hj:j<16):putAt (rS s j) (3+j) [u8 (s[15+j]'(by omega))]=rS s (j+1):=by
 have lt:((s.drop 15).take 16).length=16:=by simp;omega
 have h1:16-j=(16-(j+1))+1:=by omega
 unfold rS
 rw [h1,List.replicate_succ]
 refine (zvi (P:=[i64 (part s 1 6:Nat),i64 (part s 7 4:Nat),i64 (part s 11 4:Nat)]++(((s.drop 15).take 16).take j).map u8) (y:=u8 0) (R:=List.replicate (16-(j+1)) (u8 0)++[i64 (part s 31 4:Nat),i64 (part s 35 4:Nat)]) (k:=3+j) (by simp;omega)).trans ?_
 rw [List.take_succ_eq_append_getElem (i:=j) (by omega),List.map_append]
 simp
set_option maxRecDepth 100000 in
theorem zpq {m:Nat}(s:Str) (hs:s.length=64) (z:AB) {Q:Ex → LS → Prop}{st:LS}
  (hst:LS.sub ⟨[(0,.str s),(2,.ptr 0 0 0),(3,.ptr 1 0 0),(4,i64 0)],[z,.cells 0 (some zez) (rS s 0) 0],[]⟩ st)
  (hE:∀ Lt,subL [(0,.str s),(2,.ptr 0 0 0),(3,.ptr 1 0 0)] Lt → Q (.exit 0) ⟨Lt,[z,za4 (q5 s)],[]⟩) :
  OkR Tryz.prog (C m) cfg0.inl KK 53 6 (.loop (c18.lp 0)) st Q:=by
 refine za7 (by decide) rfl (α:=Nat) (fun j=>⟨[(0,.str s),(2,.ptr 0 0 0),(3,.ptr 1 0 0),(4,i64 j)],[z,.cells 0 (some zez) (rS s j) 0],[]⟩) (fun j=>j ≤ 16) (fun j=>16-j) 0 hst (by decide) (by decide) ?_
 intro j hj
 have lr:=rS_len s hs j hj
 conv=>whnf
 refine brd (fun a=>?_) (fun a=>?_)
 ·have hj16:j<16:=by omega
  conv=>whnf
  refine zI (z:=((15+j:Nat):Int)) (by rw [zad (by omega) (by omega)];omega) ?_
  conv=>whnf
  refine strI (b:=s[15+j]'(by omega)) (by omega) (by rw [Int.toNat_natCast];exact List.getElem?_eq_getElem (by omega)) ?_
  conv=>whnf
  refine ⟨by omega,by omega,?_⟩
  conv=>whnf
  refine stI (cs:=rS s j) (xs:=[u8 (s[15+j]'(by omega))]) (by rfl) (by rfl) (by rfl) (by rw [Nat.ble_eq,lr];show 0+1+2+((j:Nat):Int).toNat*1+1 ≤ 21;omega) (by rfl) ?_
  conv=>whnf
  refine zJ j ?_
  refine nxI (j+1) hj16 (by omega) ⟨⟨rfl,rfl,rfl,rfl⟩,?_,rfl⟩
  show [z,AB.cells 0 (some zez) (putAt (rS s j) (0+1+2+((j:Nat):Int).toNat*1) [u8 (s[15+j]'(by omega))]) 0]=_
  rw [show 0+1+2+((j:Nat):Int).toNat*1=3+j by omega,z2d s hs hj16]
 ·have:j=16:=by omega
  subst this
  rw [z2e s hs]
  conv=>whnf
  exact hE _ ⟨rfl,rfl,rfl⟩
set_option maxRecDepth 100000 in
theorem znq (hn:6 ≤ n) (s:Str) (hl:s.length<1099511627776):C n 18 [.str s] h=some (.ret (zu7 s),h):=by
 obtain ⟨m,rfl⟩:=pre1 n
 refine zak F18 rfl rfl rfl rfl ?_
 by_cases hs:s.length=64
 ·have cv:∀ (h:zaa) (a w:Nat),w ≤ 6 → C m 66 [.str ((s.take (a+w)).drop a)] h=some (.ret (i64 (part s a w)),h):=fun h a w hw=>by
   have:=zyh (n:=m) (h:=h) (by omega) ((s.take (a+w)).drop a) (by simp;omega)
   rwa [show zaf ((s.take (a+w)).drop a)=part s a w by unfold part;rw [List.drop_take,Nat.add_sub_cancel_left]] at this
  conv=>whnf
  refine brq (fun a=>absurd hs (by omega)) (fun _=>?_)
  conv=>whnf
  refine zix (c:=1) (d:=7) (by omega) (by omega) ?_
  conv=>whnf
  refine clI (cv _ 1 6 (by omega)) ?_
  conv=>whnf
  refine zix (c:=7) (d:=11) (by omega) (by omega) ?_
  conv=>whnf
  refine clI (cv _ 7 4 (by omega)) ?_
  conv=>whnf
  refine zix (c:=11) (d:=15) (by omega) (by omega) ?_
  conv=>whnf
  refine clI (cv _ 11 4 (by omega)) ?_
  conv=>whnf
  refine zix (c:=31) (d:=35) (by omega) (by omega) ?_
  conv=>whnf
  refine clI (cv _ 31 4 (by omega)) ?_
  conv=>whnf
  refine zix (c:=35) (d:=39) (by omega) (by omega) ?_
  conv=>whnf
  refine clI (cv _ 35 4 (by omega)) ?_
  conv=>whnf
  refine ⟨?_,?_⟩
  ·conv=>whnf
   refine ⟨?_,?_⟩
   ·conv=>whnf
    exact zix (c:=35) (d:=39) (by omega) (by omega) rfl
   conv=>whnf
   refine ⟨?_,?_⟩
   ·conv=>whnf
    exact zix (c:=31) (d:=35) (by omega) (by omega) rfl
   conv=>whnf
   refine ⟨?_,?_⟩
   ·conv=>whnf
    exact zix (c:=11) (d:=15) (by omega) (by omega) rfl
   conv=>whnf
   refine ⟨?_,?_⟩
   ·conv=>whnf
    exact zix (c:=7) (d:=11) (by omega) (by omega) rfl
   conv=>whnf
   exact zix (c:=1) (d:=7) (by omega) (by omega) rfl
  conv=>whnf
  refine stJ (by rfl) ?_
  conv=>whnf
  refine zpq s hs _ ⟨⟨rfl,rfl,rfl,rfl⟩,rfl,rfl⟩ (fun L hL=>?_)
  conv=>whnf
  refine cutI (by decide) rfl (t:=⟨[(0,.str s),(2,.ptr 0 0 0),(3,.ptr 1 0 0)],_,[]⟩) ⟨hL,rfl,rfl⟩ ?_
  conv=>whnf
  refine ldI rfl ?_
  conv=>whnf
  have rr:=fun h:zaa=>zsr (n:=m) (by omega) (h:=h) (q5 s)
  unfold z1p at rr
  unfold zu7
  generalize q5 s=q at rr ⊢
  cases ok:zdr q with
  | false =>
   rw [ok] at rr
   rw [if_neg (by simp)]
   refine clI (rr _) ?_
   conv=>whnf
   refine stJ (by rfl) ?_
   conv=>whnf
   refine ldI rfl ?_
   conv=>whnf
   refine stJ (by rfl) ?_
   exact ⟨rfl,_,zeb (el:=some zyv) (f:=0) (cs:=Rt.zero.cells++[i64 8]) (N:=22) (b:=0) rfl (by kernel_rfl) rfl rfl,rfl⟩
  | true =>
   rw [ok] at rr
   generalize recL q=Y at rr ⊢
   by_cases e:Y=s
   ·rw [if_pos ⟨hs,rfl,e⟩]
    refine clI (rr _) ?_
    conv=>whnf
    refine stJ (by rfl) ?_
    conv=>whnf
    refine ldI rfl ?_
    conv=>whnf
    refine ldI rfl ?_
    conv=>whnf
    refine brq (fun k=>absurd e k) (fun _=>?_)
    conv=>whnf
    refine ldI rfl ?_
    conv=>whnf
    refine stJ (by rfl) ?_
    exact ⟨rfl,_,zeb (el:=some zyv) (f:=0) (cs:=q.cells++[i64 0]) (N:=22) (b:=0) rfl (by kernel_rfl) rfl rfl,rfl⟩
   ·rw [if_neg (fun h=>e h.2.2)]
    refine clI (rr _) ?_
    conv=>whnf
    refine stJ (by rfl) ?_
    conv=>whnf
    refine ldI rfl ?_
    conv=>whnf
    refine ldI rfl ?_
    conv=>whnf
    refine brq (fun _=>?_) (fun k=>absurd k e)
    conv=>whnf
    refine stJ (by rfl) ?_
    exact ⟨rfl,_,zeb (el:=some zyv) (f:=0) (cs:=Rt.zero.cells++[i64 8]) (N:=22) (b:=0) rfl (by kernel_rfl) rfl rfl,rfl⟩
 ·unfold zu7
  rw [if_neg (fun h=>hs h.1)]
  conv=>whnf
  refine brq (fun _=>?_) (fun a=>absurd a (by omega))
  conv=>whnf
  refine stJ (by rfl) ?_
  exact ⟨rfl,_,zeb (el:=some zyv) (f:=0) (cs:=Rt.zero.cells++[i64 8]) (N:=22) (b:=0) rfl (by kernel_rfl) rfl rfl,rfl⟩
end
theorem zfj (r:Rt):eqA Tryz.prog 20 zez (.agg r.cells) (.agg r.cells)=some true:=by
 have e1:eqA Tryz.prog 20 zez (.agg r.cells) (.agg r.cells)=zcz (eqA Tryz.prog 19) [(3,i64 r.ver,i64 r.ver),(25,.agg (i64 r.root::i64 r.count::r.sum.cells),.agg (i64 r.root::i64 r.count::r.sum.cells)),(3,i64 r.list,i64 r.list),(3,i64 r.pages,i64 r.pages)]:=by kernel_rfl
 have e2:∀ (a b:Int),eqA Tryz.prog 19 3 (i64 a) (i64 b)=some (a==b):=fun a b=>by kernel_rfl
 have e2':∀ (a b:Int),eqA Tryz.prog 18 3 (i64 a) (i64 b)=some (a==b):=fun a b=>by kernel_rfl
 have e3:eqA Tryz.prog 19 25 (.agg (i64 r.root::i64 r.count::r.sum.cells)) (.agg (i64 r.root::i64 r.count::r.sum.cells))=zcz (eqA Tryz.prog 18) [(3,i64 r.root,i64 r.root),(3,i64 r.count,i64 r.count),(23,.agg r.sum.cells,.agg r.sum.cells)]:=by kernel_rfl
 have e4:eqA Tryz.prog 18 23 (.agg r.sum.cells) (.agg r.sum.cells)=zcz (eqA Tryz.prog 17) (zipE 5 (r.sum.list.map u8) (r.sum.list.map u8)):=by kernel_rfl
 have e5:∀ (x y:UInt8),eqA Tryz.prog 17 5 (.int .u8 x.toNat) (.int .u8 y.toNat)=some (((x.toNat:Nat):Int)==y.toNat):=fun x y=>by kernel_rfl
 rw [zep (fun x y=>by rw [e5,zqi]) r.sum.list r.sum.list rfl] at e4
 rw [e1]
 simp [zcz,e2,e3,e2',e4]
section
variable {n:Nat}{h:zaa}
end
def VBuf (el:TypeId) (sz:Nat) (hp:zaa) (L:AV) (rows:List (List AV)):Prop :=
 (∀ r∈rows,r.length=sz ∧ r.all AV.scal=true) ∧ ((L=.lst 0 [] true ∧ rows=[]) ∨ (∃ eb ver frz,L=.sl sz eb ver 0 rows.length ∧ hp[eb]?=some (.cells ver (some el) rows.flatten frz) ∧ frz ≤ rows.flatten.length))
theorem VBuf.nil {el sz:Nat}{hp:zaa}:VBuf el sz hp (.lst 0 [] true) []:=⟨by simp,.inl ⟨rfl,rfl⟩⟩
theorem VBuf.scal {el sz:Nat}{hp:zaa}{L:AV}{rows:List (List AV)}(b:VBuf el sz hp L rows):L.scal=true ∧ L.cells?=some [L]:=by
 rcases b.2 with ⟨rfl,_⟩ | ⟨eb,ver,frz,rfl,_⟩<;>exact ⟨rfl,rfl⟩
theorem VBuf.grow {el sz:Nat}{hp:zaa}{L:AV}{rows:List (List AV)}(b:VBuf el sz hp L rows) (xs:zaa):VBuf el sz (hp++xs) L rows:=by
 refine ⟨b.1,?_⟩
 rcases b.2 with h | ⟨eb,ver,frz,h1,h2,h3⟩
 ·exact .inl h
 ·exact .inr ⟨eb,ver,frz,h1,by rw [List.getElem?_append_left (zac h2)];exact h2,h3⟩
theorem VBuf.set {el sz:Nat}{hp:zaa}{L:AV}{rows:List (List AV)}(b:VBuf el sz hp L rows) {k:Nat}(x:AB) (hk:∀ eb ver,L≠.sl sz eb ver 0 rows.length ∨ eb≠k):VBuf el sz (hp.set k x) L rows:=by
 refine ⟨b.1,?_⟩
 rcases b.2 with h | ⟨eb,ver,frz,h1,h2,h3⟩
 ·exact .inl h
 ·refine .inr ⟨eb,ver,frz,h1,?_,h3⟩
  rcases hk eb ver with q | q
  ·exact (q h1).elim
  ·rw [List.getElem?_set_ne (Ne.symm q)];exact h2
theorem VBuf.fresh {el sz:Nat}{hp:zaa}{L:AV}{rows:List (List AV)}(b:VBuf el sz hp L rows) {k:Nat}(x:AB) (hk:hp.length ≤ k) (xs:zaa):VBuf el sz ((hp++xs).set k x) L rows:=by
 refine ⟨b.1,?_⟩
 rcases b.2 with h | ⟨eb,ver,frz,h1,h2,h3⟩
 ·exact .inl h
 ·refine .inr ⟨eb,ver,frz,h1,?_,h3⟩
  have:=zac h2
  rw [List.getElem?_set_ne (by omega),List.getElem?_append_left this];exact h2
theorem zc3:∀ xs:List AV,(xs.map fun x=>[x]).flatten=xs
 | []=>rfl
 | a::r=>by simp [zc3 r]
theorem zyg {el:TypeId}{hp:zaa}{L:AV}{xs:List AV}{n:Nat}(b:VBuf el 1 hp L (xs.map fun x=>[x])) (hx:∀ x∈xs,Abs.frz hp n x=some x):∃ sh:Sh,Abs.frz hp (n+1) L=some (.lst sh.sz xs sh.c) ∧ (xs≠[] → sh.sz=1):=by
 rcases b.2 with ⟨rfl,h2⟩ | ⟨eb,ver,frz,rfl,h2,_⟩
 ·have:xs=[]:=by simpa using h2
  subst this
  exact ⟨⟨0,true⟩,rfl,fun h=>(h rfl).elim⟩
 ·refine ⟨⟨1,false⟩,?_,fun _=>rfl⟩
  rw [zc3] at h2
  unfold Abs.frz
  simp only [h2,List.length_map]
  rw [if_pos ⟨trivial,by omega⟩]
  have h1:(xs.drop 0).take (xs.length*1)=xs:=by rw [List.drop_zero];exact List.take_of_length_le (by omega)
  rw [h1,zeo hx]
  simp only
  have hs:xs.all AV.scal=true:=by
   rw [List.all_eq_true]
   intro x hm
   have:=(b.1 [x] (List.mem_map.2 ⟨x,hm,rfl⟩)).2
   simpa using this
  rw [if_pos hs]
  rfl
theorem zum {el sz:Nat}(hz:sz≠1) {hp:zaa}{L:AV}{rows rows':List (List AV)}{n:Nat}(b:VBuf el sz hp L rows) (ha:allM (Abs.frz hp n) rows.flatten=some rows'.flatten) (hr':∀ r∈rows',r.length=sz ∧ r.all AV.scal=true) (hl:rows'.length=rows.length):∃ sh:Sh,Abs.frz hp (n+1) L=some (.lst sh.sz (rows'.map .agg) sh.c) ∧ (rows'≠[] → sh.sz=sz):=by
 rcases b.2 with ⟨rfl,h2⟩ | ⟨eb,ver,frz,rfl,h2,_⟩
 ·have:rows'=[]:=by
   rw [h2] at hl
   simpa using hl
  subst this
  exact ⟨⟨0,true⟩,rfl,fun h=>(h rfl).elim⟩
 ·exact ⟨⟨sz,false⟩,zwo hz h2 (fun r hm=>(b.1 r hm).1) ha hr' hl,fun _=>rfl⟩
abbrev tRtd:Nat:=38
theorem zy1 {h:zaa}{b:Nat}{cs:List AV}(hl:cs.length=21) (hb:h[b]?=some (.cells 0 (some zez) cs 0)):zbv Tryz.prog h zez (.ptr b 0 0)=some (.agg cs):=zbk (N:=21) (by kernel_rfl) hl hb
theorem zre {h:zaa}{b:Nat}{cs:List AV}(hl:cs.length=22) (hb:h[b]?=some (.cells 0 (some tRtd) cs 0)):zbv Tryz.prog h tRtd (.ptr b 0 0)=some (.agg cs):=zbk (N:=22) (by kernel_rfl) hl hb
theorem znk {L:LT}{h:zaa}{a c b:Nat}{cs:List AV}{k:Int}(h4:lk L a=some (.ptr b 0 0)) (h5:lk L c=some (i64 k)) (hP:h[b]?=some (.cells 0 (some zez) cs 0)) (hc:cs.length=21):zb3 Tryz.prog L h [.cell a zez,.tmp c]=some [.agg cs,i64 k]:=by
 simp only [zb3,h4,h5,zy1 hc hP]
def Rt.cellsE (r:Rt) (e:Int):List AV:=r.cells++[i64 e]
abbrev zRtB:AB:=.cells 0 (some zez) Rt.zero.cells 0
section
variable {n m:Nat}{d:Dk}{hp:zaa}{w s:Nat}
theorem rt_frz (h:zaa) (r:Rt) (e:Int):Abs.frz h 64 (.agg (r.cellsE e))=some (.agg (r.cellsE e)):=rfl
theorem zks (hm:6 ≤ m) (ok:d.Ok) (hr:zap d=true) (hs:s<zar d) (hw:hp[w]?=some (wriC d)) (hc:za1 d (s*8) 1=false) :
  ∃ v h',C (m+1) 108 [.ptr w 0 0,i64 s] hp=some (.ret v,h') ∧ v=.tup [Rt.zero.av,i64 8] ∧ Keep hp h' []:=by
 have lw:=zac hw
 have hz:=(rightD_iff.1 hr).1
 have hn8:s*8+1 ≤ d.secs.length:=by unfold zar at hs;omega
 refine zcp F108 rfl rfl ?_
 conv=>whnf
 refine ldI (za8 hw) ?_
 conv=>whnf
 refine zI (z:=((s*8:Nat):Int)) (by rw [zad (by omega) (by omega)];omega) ?_
 conv=>whnf
 have cR:=fun h=>zio (n:=m) (h:=h) (by omega) d ok hr (s*8) 1 (by omega) (by omega) hn8
 unfold zg0 at cR
 rw [hc] at cR
 refine clI (cR _) ?_
 conv=>whnf
 refine stJ (xs:=Rt.zero.cells) (zag _ _) ?_
 exact ⟨rfl,_,znk rfl rfl (zae _ _ _) rfl,rfl,(Keep.app hp _ []).set' (.inr (Nat.le_refl _))⟩
theorem zm9 (hm:10 ≤ m) (ok:d.Ok) (hr:zap d=true) (hs:s<zar d) (hw:hp[w]?=some (wriC d)) (hc:za1 d (s*8) 1=true) {q:Rt}{k:Int}(cD:∀ h,C m 17 [.str (zbt d (s*8) 1)] h=some (.ret (.tup [q.av,i64 k]),h)) {V:AV}(hV:V=if k=0 ∧ q.pages ≤ zar d then .tup [q.av,i64 0] else .tup [Rt.zero.av,i64 8]) :
  ∃ v h',C (m+1) 108 [.ptr w 0 0,i64 s] hp=some (.ret v,h') ∧ v=V ∧ Keep hp h' []:=by
 have lw:=zac hw
 have hz:=(rightD_iff.1 hr).1
 have hn8:s*8+1 ≤ d.secs.length:=by unfold zar at hs;omega
 refine zcp F108 rfl rfl ?_
 conv=>whnf
 refine ldI (za8 hw) ?_
 conv=>whnf
 refine zI (z:=((s*8:Nat):Int)) (by rw [zad (by omega) (by omega)];omega) ?_
 conv=>whnf
 have cR:=fun h=>zio (n:=m) (h:=h) (by omega) d ok hr (s*8) 1 (by omega) (by omega) hn8
 unfold zg0 at cR
 rw [hc] at cR
 refine clI (cR _) ?_
 conv=>whnf
 refine clI (cD _) ?_
 conv=>whnf
 refine stJ (xs:=q.cells) (zag _ _) ?_
 have k1:∀ x y,Keep hp ((hp++[zRtB]++[x]).set (hp++[zRtB]).length y) []:=fun x y=>((Keep.app hp _ []).trans (Keep.app _ _ []) (by simp)).set' (.inr (by simp))
 have g1:∀ x y,((hp++[zRtB]++[x]).set (hp++[zRtB]).length y)[hp.length]?=some zRtB:=fun x y=>by
  rw [List.getElem?_set_ne (by simp),List.getElem?_append_left (by simp)];exact zag _ _
 have hw2:∀ x y,((hp++[zRtB]++[x]).set (hp++[zRtB]).length y)[w]?=some (wriC d):=fun x y=>(k1 x y).get hw (by simp)
 conv=>whnf
 refine brq (fun c1=>?_) (fun c1=>?_)
 ·rw [if_neg (fun e=>c1 e.1)] at hV
  subst hV
  conv=>whnf
  refine ⟨rfl,?_⟩
  conv=>whnf
  refine stJ (xs:=Rt.zero.cells) (g1 _ _) ?_
  exact ⟨rfl,_,znk rfl rfl (List.getElem?_set_self (zac (g1 _ _))) rfl,rfl,(k1 _ _).set' (.inr (Nat.le_refl _))⟩
 ·conv=>whnf
  refine ldI (zae _ _ _) ?_
  conv=>whnf
  refine clI (zij (by omega) d (hw2 _ _) (by omega)) ?_
  refine ⟨?_,?_⟩
  ·refine ldI (zae _ _ _) ?_
   rfl
  conv=>whnf
  refine brd (fun c2=>?_) (fun c2=>?_)
  ·rw [if_neg (fun e=>by omega)] at hV
   subst hV
   conv=>whnf
   refine stJ (xs:=Rt.zero.cells) (g1 _ _) ?_
   exact ⟨rfl,_,znk rfl rfl (List.getElem?_set_self (zac (g1 _ _))) rfl,rfl,(k1 _ _).set' (.inr (Nat.le_refl _))⟩
  ·rw [if_pos ⟨c1,by omega⟩] at hV
   subst hV
   conv=>whnf
   refine ldI (zae _ _ _) ?_
   conv=>whnf
   refine stJ (xs:=q.cells) (g1 _ _) ?_
   exact ⟨rfl,_,znk rfl rfl (List.getElem?_set_self (zac (g1 _ _))) rfl,rfl,(k1 _ _).set' (.inr (Nat.le_refl _))⟩
theorem zsq {h:zaa}(hm:6 ≤ m) (ok:d.Ok) (hr:zap d=true) (hs:s<zar d) (hc:za1 d (s*8) 1=false) :
  C (m+1) 110 [d.av,i64 s] h=some (.ret (.agg (Rt.zero.cellsE 8)),h):=by
 have hz:=(rightD_iff.1 hr).1
 have hn8:s*8+1 ≤ d.secs.length:=by unfold zar at hs;omega
 refine zak F110 rfl rfl rfl (by simp [zan,zb0,AV.pureB]) ?_
 conv=>whnf
 refine ldI rfl ?_
 conv=>whnf
 refine zI (z:=((s*8:Nat):Int)) (by rw [zad (by omega) (by omega)];omega) ?_
 conv=>whnf
 have cR:=fun h=>zrf (n:=m) (h:=h) (by omega) d ok hr (s*8) 1 (by omega) hn8
 unfold zg0 at cR
 rw [hc] at cR
 refine clI (cR _) ?_
 conv=>whnf
 refine stJ (xs:=[.str [],i64 8]) (by rfl) ?_
 conv=>whnf
 refine ldI rfl ?_
 conv=>whnf
 refine stJ (xs:=Rt.zero.cellsE 8) (by rfl) ?_
 exact ⟨rfl,_,zce rfl (zre rfl rfl),rfl⟩
theorem znl {h:zaa}(hm:10 ≤ m) (ok:d.Ok) (hr:zap d=true) (hs:s<zar d) (hc:za1 d (s*8) 1=true) {b:Rt}{k:Int}(cD:∀ h,C m 18 [.str (zbt d (s*8) 1)] h=some (.ret (.agg (b.cellsE k)),h)) {V:List AV}(hV:V=if k=0 ∧ b.pages ≤ zar d then b.cellsE 0 else Rt.zero.cellsE 8) :
  C (m+1) 110 [d.av,i64 s] h=some (.ret (.agg V),h):=by
 have hz:=(rightD_iff.1 hr).1
 have hn8:s*8+1 ≤ d.secs.length:=by unfold zar at hs;omega
 refine zak F110 rfl rfl rfl (by simp [zan,zb0,AV.pureB]) ?_
 conv=>whnf
 refine ldI rfl ?_
 conv=>whnf
 refine zI (z:=((s*8:Nat):Int)) (by rw [zad (by omega) (by omega)];omega) ?_
 conv=>whnf
 have cR:=fun h=>zrf (n:=m) (h:=h) (by omega) d ok hr (s*8) 1 (by omega) hn8
 unfold zg0 at cR
 rw [hc] at cR
 refine clI (cR _) ?_
 conv=>whnf
 refine stJ (xs:=[.str (zbt d (s*8) 1),i64 0]) (by rfl) ?_
 conv=>whnf
 refine ldI rfl ?_
 conv=>whnf
 refine ldI rfl ?_
 conv=>whnf
 refine clI (cD _) ?_
 conv=>whnf
 refine stJ (xs:=b.cellsE k) (by rfl) ?_
 conv=>whnf
 refine ldI rfl ?_
 conv=>whnf
 refine brq (fun c1=>?_) (fun c1=>?_)
 ·rw [if_neg (fun e=>c1 e.1)] at hV
  subst hV
  conv=>whnf
  refine stJ (xs:=Rt.zero.cellsE 8) (by rfl) ?_
  exact ⟨rfl,_,zce rfl (zre rfl rfl),rfl⟩
 ·subst c1
  conv=>whnf
  refine ldI rfl ?_
  conv=>whnf
  refine ldI rfl ?_
  conv=>whnf
  refine clI (zu8 (by omega) d (by omega)) ?_
  conv=>whnf
  refine brd (fun c2=>?_) (fun c2=>?_)
  ·rw [if_neg (fun e=>by omega)] at hV
   subst hV
   conv=>whnf
   refine stJ (xs:=Rt.zero.cellsE 8) (by rfl) ?_
   exact ⟨rfl,_,zce rfl (zre rfl rfl),rfl⟩
  ·rw [if_pos ⟨rfl,by omega⟩] at hV
   subst hV
   conv=>whnf
   refine ldI rfl ?_
   conv=>whnf
   refine stJ (xs:=b.cellsE 0) (by rfl) ?_
   exact ⟨rfl,_,zce rfl (zre rfl rfl),rt_frz _ _ _⟩
theorem zvr (s:Str) (hs:s.length<1099511627776):∃ (q:Rt) (e:Int),(∀ n,6 ≤ n → ∀ h,C n 17 [.str s] h=some (.ret (.tup [q.av,i64 e]),h)) ∧ ∀ n,6 ≤ n → ∀ h,C n 18 [.str s] h=some (.ret (.agg (q.cellsE e)),h):=by
 by_cases ok:s.length=64 ∧ zdr (q5 s)=true ∧ recL (q5 s)=s
 ·refine ⟨q5 s,0,fun n hn h=>?_,fun n hn h=>?_⟩
  ·have:=zrl (n:=n) (h:=h) (by omega) s hs
   unfold parR at this
   rwa [zub,if_pos ok] at this
  ·have:=znq (n:=n) (h:=h) (by omega) s hs
   unfold zu7 at this
   rwa [if_pos ok] at this
 ·refine ⟨Rt.zero,8,fun n hn h=>?_,fun n hn h=>?_⟩
  ·have:=zrl (n:=n) (h:=h) (by omega) s hs
   unfold parR at this
   rwa [zub,if_neg ok] at this
  ·have:=znq (n:=n) (h:=h) (by omega) s hs
   unfold zu7 at this
   rwa [if_neg ok] at this
end
theorem cvP {P:Program}{call:zba}{g:FuncId}{args:List AV}{h h':zaa}{K X:AV → zaa → Prop}{v:AV}(h0:fnOk P g=true) (h1:call g args h=some (.pan v,h')) (h2:X v h'):fnOk P g=true ∧ ∃ r h',call g args h=some (r,h') ∧ WpR K X h' r:=⟨h0,.pan v,h',h1,h2⟩
abbrev tTPg:Nat:=79
abbrev zTPg:List AV:=zbr
abbrev zCPg:AB:=.cells 0 (some tTPg) zTPg 0
def cRecPg:RC:=match c160 with
 | .seq _ r=>r
 | _=>.skip
theorem DTPg:DefI 160 2 15 5 [] (some 6) [] cRecPg :=
 ⟨⟨Tryz.f160,Tryz.func160,by kernel_rfl,by kernel_rfl,by kernel_rfl⟩,by kernel_rfl,by decide,by kernel_rfl,by kernel_rfl,by kernel_rfl⟩
theorem zwz:fnOk Tryz.prog 160=true:=DTPg.fine
theorem ldTPg {h:zaa}{b:Nat}{cs:List AV}(hl:cs.length=10) (hb:h[b]?=some (.cells 0 (some tTPg) cs 0)):∃ v,zbv Tryz.prog h tTPg (.ptr b 0 0)=some v ∧ v=.agg cs:=⟨_,zbk (N:=10) (by kernel_rfl) hl hb,rfl⟩
section
variable {n m:Nat}{h hp h2:zaa}
theorem retTPg {P I:Nat}:∃ h',zca Tryz.prog (C m) (zcf Tryz.prog cfg0.inl (C m)) KK 160 [.ptr P 0 0,.ptr I 0 0] .ret h=some (.ret,h') ∧ h'=h:=by
 refine zha DTPg rfl ?_
 conv=>whnf
 exact ⟨rfl,⟨[],rfl⟩,rfl⟩
theorem panTPg {P I:Nat}{e:Int}{a:AV}{cs:List AV}(hn:P≠I) (hP:h[P]?=some (.cells 0 (some tTPg) cs 0)) (hc:cs.length=10) (hI:h[I]?=some (.cells 0 (some tErr) [a] 0)) :
  ∃ h',zca Tryz.prog (C m) (zcf Tryz.prog cfg0.inl (C m)) KK 160 [.ptr P 0 0,.ptr I 0 0] (.pan (zcy e) false) h=some (.pan (zcy e) true,h') ∧ h'[P]?=some zCPg ∧ h'[I]?=some (.cells 0 (some tErr) [i64 e] 0) ∧ Keep h h' [P,I]:=by
 refine zha DTPg rfl ?_
 have lP:=zac hP
 have lI:=zac hI
 have hput:putAt cs 0 zTPg=zTPg:=by
  unfold putAt
  rw [List.take_zero,List.nil_append,List.drop_of_length_le (by rw [hc];decide),List.append_nil]
 conv=>whnf
 refine stJ (xs:=[i64 e]) (zag _ _) ?_
 conv=>whnf
 have k00:Keep h ((h++[AB.cells 0 (some tFF) [i64 0] 0]).set h.length (AB.cells 0 (some tFF) (putAt [i64 0] 0 [i64 e]) 0)) [P,I]:=(Keep.app h _ _).set' (.inr (Nat.le_refl _))
 have k0:=k00.trans (Keep.app _ zCPg []) (by simp)
 have eX:(((h++[AB.cells 0 (some tFF) [i64 0] 0]).set h.length (AB.cells 0 (some tFF) (putAt [i64 0] 0 [i64 e]) 0))++[zCPg])[h.length]?=some (.cells 0 (some tFF) [i64 e] 0):=by
  rw [List.getElem?_append_left (by simp),zae];rfl
 have eZ:=zag ((h++[AB.cells 0 (some tFF) [i64 0] 0]).set h.length (AB.cells 0 (some tFF) (putAt [i64 0] 0 [i64 e]) 0)) zCPg
 have eP:(((h++[AB.cells 0 (some tFF) [i64 0] 0]).set h.length (AB.cells 0 (some tFF) (putAt [i64 0] 0 [i64 e]) 0))++[zCPg])[P]?=some (.cells 0 (some tTPg) cs 0):=by
  rw [List.getElem?_append_left (by simp;omega),List.getElem?_set_ne (by omega),List.getElem?_append_left lP];exact hP
 have eI:(((h++[AB.cells 0 (some tFF) [i64 0] 0]).set h.length (AB.cells 0 (some tFF) (putAt [i64 0] 0 [i64 e]) 0))++[zCPg])[I]?=some (.cells 0 (some tErr) [a] 0):=by
  rw [List.getElem?_append_left (by simp;omega),List.getElem?_set_ne (by omega),List.getElem?_append_left lI];exact hI
 refine ldI eZ ?_
 conv=>whnf
 refine ldI eX ?_
 conv=>whnf
 refine stI (xs:=zTPg) eP (by rfl) (by rfl) (by rw [hc];decide) (by rfl) ?_
 refine ⟨?_,?_⟩
 ·refine ⟨?_,?_⟩
  ·conv=>whnf
   refine ldI (by rw [List.getElem?_set_ne (by omega)];exact eX) ?_
   rfl
  ·conv=>whnf
   refine ldI (by rw [List.getElem?_set_ne (by simp;omega)];exact eZ) ?_
   rfl
 conv=>whnf
 refine stJ (xs:=[i64 e]) (by rw [List.getElem?_set_ne hn];exact eI) ?_
 refine ⟨rfl,⟨[],rfl⟩,?_,?_,?_⟩
 ·rw [List.getElem?_set_ne (Ne.symm hn),List.getElem?_set_self (by simp;omega),hput]
 ·rw [List.getElem?_set_self (by simp;omega)]
  rfl
 ·exact ((k0.set' (.inl (by simp))).set' (.inl (by simp)))
theorem zzv {R:CRes → zaa → Prop}{L:LT}{P I:Nat}{cs:List AV}(a2:lk L 2=some (.ptr P 0 0)) (a3:lk L 3=some (.ptr I 0 0)) (g1:h[P]?=some (.cells 0 (some tTPg) cs 0)) (hl:cs.length=10) (g2:h[I]?=some (errC 0)) (hR:R (.ret (.tup [.agg cs,i64 0])) h) :
  EndQ Tryz.prog (C m) cfg0.inl [.cell 2 tTPg,.cell 3 tErr] R .ret ⟨L,h,[.fn 160 [.ptr P 0 0,.ptr I 0 0]]⟩:=by
 obtain ⟨h',e1,rfl⟩:=retTPg (m:=m) (h:=h) (P:=P) (I:=I)
 obtain ⟨w,ew,rfl⟩:=ldTPg hl g1
 refine ⟨zwz,_,h',e1,[.agg cs,i64 0],?_,hR⟩
 simp only [zb3,a2,a3,ew,zg9 g2]<;>rfl
theorem zzx {R:CRes → zaa → Prop}{L:LT}{P I:Nat}{e:Int}{cs:List AV}(hn:P≠I) (a2:lk L 2=some (.ptr P 0 0)) (a3:lk L 3=some (.ptr I 0 0)) (g1:h[P]?=some (.cells 0 (some tTPg) cs 0)) (hl:cs.length=10) (g2:h[I]?=some (errC 0)) (hR:∀ h',Keep h h' [P,I] → R (.ret (.tup [.agg zTPg,i64 e])) h') :
  EndQ Tryz.prog (C m) cfg0.inl [.cell 2 tTPg,.cell 3 tErr] R (.pan (zcy e)) ⟨L,h,[.fn 160 [.ptr P 0 0,.ptr I 0 0]]⟩:=by
 obtain ⟨h',e1,q1,q2,k1⟩:=panTPg (m:=m) (h:=h) (P:=P) (I:=I) (e:=e) hn g1 hl g2
 obtain ⟨w,ew,hw⟩:=ldTPg rfl q1
 refine ⟨zwz,_,h',e1,[.agg zTPg,i64 e],?_,hR h' k1⟩
 simp only [zb3,a2,a3,ew,hw,zg9 q2]<;>rfl
theorem zyl {g:FuncId}{caps:List AV}{v:AV}{cs:List AV}(hf:fnOk Tryz.prog g=true) (hg:C m g caps (hp++[zCPg]++[errC 0])=some (.ret v,h2)) (hv:v.cells?=some cs) (hl:cs.length=10) (hx:h2[hp.length]?=some zCPg) (he:h2[(hp++[zCPg]).length]?=some (errC 0)) :
  ∃ r h3,C (m+1) 89 [.fn (.func g) [] caps] hp=some (r,h3) ∧ r=.ret (.tup [.agg cs,i64 0]) ∧ Keep h2 h3 [hp.length,(hp++[zCPg]).length]:=by
 have l2:=zac he
 have l1:=zac hx
 have el:(hp++[zCPg]).length≠hp.length:=by simp
 have hput:putAt zTPg 0 cs=cs:=by
  unfold putAt
  rw [List.take_zero,List.nil_append,List.drop_of_length_le (by rw [hl];decide),List.append_nil]
 refine zbh F89 rfl rfl ?_
 conv=>whnf
 refine ⟨rfl,.fn 160 [.ptr hp.length 0 0,.ptr (hp++[zCPg]).length 0 0],by kernel_rfl,?_⟩
 conv=>whnf
 refine cvI hf hg ?_
 conv=>whnf
 refine stI (xs:=cs) hx hv hl (by rw [hl];rfl) (by rfl) ?_
 conv=>whnf
 refine stJ (xs:=[i64 0]) ((List.getElem?_set_ne el.symm).trans he) ?_
 refine zzv (cs:=cs) (P:=hp.length) (I:=(hp++[zCPg]).length) rfl rfl ?_ hl ?_ ⟨rfl,?_⟩
 ·refine (List.getElem?_set_ne el).trans ((List.getElem?_set_self l1).trans ?_)
  rw [hput]
 ·exact List.getElem?_set_self (by rw [List.length_set];exact l2)
 ·exact (Keep.set (by simp)).set' (.inl (by simp))
theorem zyn {g:FuncId}{caps:List AV}{e:Int}{cs:List AV}(hf:fnOk Tryz.prog g=true) (hg:C m g caps (hp++[zCPg]++[errC 0])=some (.pan (zcy e),h2)) (hl:cs.length=10) (hx:h2[hp.length]?=some (.cells 0 (some tTPg) cs 0)) (he:h2[(hp++[zCPg]).length]?=some (errC 0)) :
  ∃ r h3,C (m+1) 89 [.fn (.func g) [] caps] hp=some (r,h3) ∧ r=.ret (.tup [.agg zTPg,i64 e]) ∧ Keep h2 h3 [hp.length,(hp++[zCPg]).length]:=by
 have el:(hp++[zCPg]).length≠hp.length:=by simp
 refine zbh F89 rfl rfl ?_
 conv=>whnf
 refine ⟨rfl,.fn 160 [.ptr hp.length 0 0,.ptr (hp++[zCPg]).length 0 0],by kernel_rfl,?_⟩
 conv=>whnf
 refine cvP hf hg ?_
 exact zzx (P:=hp.length) (I:=(hp++[zCPg]).length) el.symm rfl rfl hx hl he fun h' k=>⟨rfl,k⟩
end
section
variable {n m:Nat}{h hp h2:zaa}
end
abbrev tTRt:Nat:=27
abbrev zTRt:List AV:=Rt.zero.cells
abbrev zCRt:AB:=.cells 0 (some tTRt) zTRt 0
def cRecRt:RC:=match c168 with
 | .seq _ r=>r
 | _=>.skip
theorem DTRt:DefI 168 2 15 5 [] (some 6) [] cRecRt :=
 ⟨⟨Tryz.f168,Tryz.func168,by kernel_rfl,by kernel_rfl,by kernel_rfl⟩,by kernel_rfl,by decide,by kernel_rfl,by kernel_rfl,by kernel_rfl⟩
theorem zwy:fnOk Tryz.prog 168=true:=DTRt.fine
theorem ldTRt {h:zaa}{b:Nat}{cs:List AV}(hl:cs.length=21) (hb:h[b]?=some (.cells 0 (some tTRt) cs 0)):∃ v,zbv Tryz.prog h tTRt (.ptr b 0 0)=some v ∧ v=.agg cs:=⟨_,zbk (N:=21) (by kernel_rfl) hl hb,rfl⟩
section
variable {n m:Nat}{h hp h2:zaa}
theorem retTRt {P I:Nat}:∃ h',zca Tryz.prog (C m) (zcf Tryz.prog cfg0.inl (C m)) KK 168 [.ptr P 0 0,.ptr I 0 0] .ret h=some (.ret,h') ∧ h'=h:=by
 refine zha DTRt rfl ?_
 conv=>whnf
 exact ⟨rfl,⟨[],rfl⟩,rfl⟩
theorem panTRt {P I:Nat}{e:Int}{a:AV}{cs:List AV}(hn:P≠I) (hP:h[P]?=some (.cells 0 (some tTRt) cs 0)) (hc:cs.length=21) (hI:h[I]?=some (.cells 0 (some tErr) [a] 0)) :
  ∃ h',zca Tryz.prog (C m) (zcf Tryz.prog cfg0.inl (C m)) KK 168 [.ptr P 0 0,.ptr I 0 0] (.pan (zcy e) false) h=some (.pan (zcy e) true,h') ∧ h'[P]?=some zCRt ∧ h'[I]?=some (.cells 0 (some tErr) [i64 e] 0) ∧ Keep h h' [P,I]:=by
 refine zha DTRt rfl ?_
 have lP:=zac hP
 have lI:=zac hI
 have hput:putAt cs 0 zTRt=zTRt:=by
  unfold putAt
  rw [List.take_zero,List.nil_append,List.drop_of_length_le (by rw [hc];decide),List.append_nil]
 conv=>whnf
 refine stJ (xs:=[i64 e]) (zag _ _) ?_
 conv=>whnf
 have k00:Keep h ((h++[AB.cells 0 (some tFF) [i64 0] 0]).set h.length (AB.cells 0 (some tFF) (putAt [i64 0] 0 [i64 e]) 0)) [P,I]:=(Keep.app h _ _).set' (.inr (Nat.le_refl _))
 have k0:=k00.trans (Keep.app _ zCRt []) (by simp)
 have eX:(((h++[AB.cells 0 (some tFF) [i64 0] 0]).set h.length (AB.cells 0 (some tFF) (putAt [i64 0] 0 [i64 e]) 0))++[zCRt])[h.length]?=some (.cells 0 (some tFF) [i64 e] 0):=by
  rw [List.getElem?_append_left (by simp),zae];rfl
 have eZ:=zag ((h++[AB.cells 0 (some tFF) [i64 0] 0]).set h.length (AB.cells 0 (some tFF) (putAt [i64 0] 0 [i64 e]) 0)) zCRt
 have eP:(((h++[AB.cells 0 (some tFF) [i64 0] 0]).set h.length (AB.cells 0 (some tFF) (putAt [i64 0] 0 [i64 e]) 0))++[zCRt])[P]?=some (.cells 0 (some tTRt) cs 0):=by
  rw [List.getElem?_append_left (by simp;omega),List.getElem?_set_ne (by omega),List.getElem?_append_left lP];exact hP
 have eI:(((h++[AB.cells 0 (some tFF) [i64 0] 0]).set h.length (AB.cells 0 (some tFF) (putAt [i64 0] 0 [i64 e]) 0))++[zCRt])[I]?=some (.cells 0 (some tErr) [a] 0):=by
  rw [List.getElem?_append_left (by simp;omega),List.getElem?_set_ne (by omega),List.getElem?_append_left lI];exact hI
 refine ldI eZ ?_
 conv=>whnf
 refine ldI eX ?_
 conv=>whnf
 refine stI (xs:=zTRt) eP (by rfl) (by rfl) (by rw [hc];decide) (by rfl) ?_
 refine ⟨?_,?_⟩
 ·refine ⟨?_,?_⟩
  ·conv=>whnf
   refine ldI (by rw [List.getElem?_set_ne (by omega)];exact eX) ?_
   rfl
  ·conv=>whnf
   refine ldI (by rw [List.getElem?_set_ne (by simp;omega)];exact eZ) ?_
   rfl
 conv=>whnf
 refine stJ (xs:=[i64 e]) (by rw [List.getElem?_set_ne hn];exact eI) ?_
 refine ⟨rfl,⟨[],rfl⟩,?_,?_,?_⟩
 ·rw [List.getElem?_set_ne (Ne.symm hn),List.getElem?_set_self (by simp;omega),hput]
 ·rw [List.getElem?_set_self (by simp;omega)]
  rfl
 ·exact ((k0.set' (.inl (by simp))).set' (.inl (by simp)))
theorem zzu {R:CRes → zaa → Prop}{L:LT}{P I:Nat}{cs:List AV}(a2:lk L 2=some (.ptr P 0 0)) (a3:lk L 3=some (.ptr I 0 0)) (g1:h[P]?=some (.cells 0 (some tTRt) cs 0)) (hl:cs.length=21) (g2:h[I]?=some (errC 0)) (hR:R (.ret (.tup [.agg cs,i64 0])) h) :
  EndQ Tryz.prog (C m) cfg0.inl [.cell 2 tTRt,.cell 3 tErr] R .ret ⟨L,h,[.fn 168 [.ptr P 0 0,.ptr I 0 0]]⟩:=by
 obtain ⟨h',e1,rfl⟩:=retTRt (m:=m) (h:=h) (P:=P) (I:=I)
 obtain ⟨w,ew,rfl⟩:=ldTRt hl g1
 refine ⟨zwy,_,h',e1,[.agg cs,i64 0],?_,hR⟩
 simp only [zb3,a2,a3,ew,zg9 g2]<;>rfl
theorem zzw {R:CRes → zaa → Prop}{L:LT}{P I:Nat}{e:Int}{cs:List AV}(hn:P≠I) (a2:lk L 2=some (.ptr P 0 0)) (a3:lk L 3=some (.ptr I 0 0)) (g1:h[P]?=some (.cells 0 (some tTRt) cs 0)) (hl:cs.length=21) (g2:h[I]?=some (errC 0)) (hR:∀ h',Keep h h' [P,I] → R (.ret (.tup [.agg zTRt,i64 e])) h') :
  EndQ Tryz.prog (C m) cfg0.inl [.cell 2 tTRt,.cell 3 tErr] R (.pan (zcy e)) ⟨L,h,[.fn 168 [.ptr P 0 0,.ptr I 0 0]]⟩:=by
 obtain ⟨h',e1,q1,q2,k1⟩:=panTRt (m:=m) (h:=h) (P:=P) (I:=I) (e:=e) hn g1 hl g2
 obtain ⟨w,ew,hw⟩:=ldTRt rfl q1
 refine ⟨zwy,_,h',e1,[.agg zTRt,i64 e],?_,hR h' k1⟩
 simp only [zb3,a2,a3,ew,hw,zg9 q2]<;>rfl
theorem zyk {g:FuncId}{caps:List AV}{v:AV}{cs:List AV}(hf:fnOk Tryz.prog g=true) (hg:C m g caps (hp++[zCRt]++[errC 0])=some (.ret v,h2)) (hv:v.cells?=some cs) (hl:cs.length=21) (hx:h2[hp.length]?=some zCRt) (he:h2[(hp++[zCRt]).length]?=some (errC 0)) :
  ∃ r h3,C (m+1) 104 [.fn (.func g) [] caps] hp=some (r,h3) ∧ r=.ret (.tup [.agg cs,i64 0]) ∧ Keep h2 h3 [hp.length,(hp++[zCRt]).length]:=by
 have l2:=zac he
 have l1:=zac hx
 have el:(hp++[zCRt]).length≠hp.length:=by simp
 have hput:putAt zTRt 0 cs=cs:=by
  unfold putAt
  rw [List.take_zero,List.nil_append,List.drop_of_length_le (by rw [hl];decide),List.append_nil]
 refine zbh F104 rfl rfl ?_
 conv=>whnf
 refine ⟨rfl,.fn 168 [.ptr hp.length 0 0,.ptr (hp++[zCRt]).length 0 0],by kernel_rfl,?_⟩
 conv=>whnf
 refine cvI hf hg ?_
 conv=>whnf
 refine stI (xs:=cs) hx hv hl (by rw [hl];rfl) (by rfl) ?_
 conv=>whnf
 refine stJ (xs:=[i64 0]) ((List.getElem?_set_ne el.symm).trans he) ?_
 refine zzu (cs:=cs) (P:=hp.length) (I:=(hp++[zCRt]).length) rfl rfl ?_ hl ?_ ⟨rfl,?_⟩
 ·refine (List.getElem?_set_ne el).trans ((List.getElem?_set_self l1).trans ?_)
  rw [hput]
 ·exact List.getElem?_set_self (by rw [List.length_set];exact l2)
 ·exact (Keep.set (by simp)).set' (.inl (by simp))
theorem zym {g:FuncId}{caps:List AV}{e:Int}{cs:List AV}(hf:fnOk Tryz.prog g=true) (hg:C m g caps (hp++[zCRt]++[errC 0])=some (.pan (zcy e),h2)) (hl:cs.length=21) (hx:h2[hp.length]?=some (.cells 0 (some tTRt) cs 0)) (he:h2[(hp++[zCRt]).length]?=some (errC 0)) :
  ∃ r h3,C (m+1) 104 [.fn (.func g) [] caps] hp=some (r,h3) ∧ r=.ret (.tup [.agg zTRt,i64 e]) ∧ Keep h2 h3 [hp.length,(hp++[zCRt]).length]:=by
 have el:(hp++[zCRt]).length≠hp.length:=by simp
 refine zbh F104 rfl rfl ?_
 conv=>whnf
 refine ⟨rfl,.fn 168 [.ptr hp.length 0 0,.ptr (hp++[zCRt]).length 0 0],by kernel_rfl,?_⟩
 conv=>whnf
 refine cvP hf hg ?_
 exact zzw (P:=hp.length) (I:=(hp++[zCRt]).length) el.symm rfl rfl hx hl he fun h' k=>⟨rfl,k⟩
end
section
variable {n m:Nat}{h hp h2:zaa}
end
abbrev intC (k:Int):AB:=.cells 0 (some 3) [i64 k] 0
section
variable {n m:Nat}{h hp:zaa}{d:Dk}
theorem zfw (hn:1 ≤ n) {b:Bool}(hb:b=true) (e:Int):C n 80 [.bool b,i64 e] h=some (.ret (.tup []),h):=by subst hb;exact z2o hn e
theorem zro (hn:2 ≤ n) {b:Bool}(hb:b=false) (e:Int) (he:e≠0):C n 80 [.bool b,i64 e] h=some (.pan (zcy e),h):=by subst hb;exact z2p hn e he
theorem z26 (hn:2 ≤ n) (q:Page):C n 92 [q.av,i64 0] h=some (.ret q.av,h):=by
 obtain ⟨m,rfl⟩:=pre1 n
 refine zak F92 rfl rfl rfl (by simp [zan,zcs,AV.pureB]) ?_
 conv=>whnf
 refine clI (zqg (by omega)) ?_
 conv=>whnf
 refine ldI rfl ?_
 conv=>whnf
 refine stJ (xs:=q.cells) (by rfl) ?_
 exact ⟨rfl,_,zce rfl (zho rfl rfl),zn1 q _⟩
theorem z27 (hn:2 ≤ n) (q:Page) (e:Int) (he:e≠0):C n 92 [q.av,i64 e] h=some (.pan (zcy e),h):=by
 obtain ⟨m,rfl⟩:=pre1 n
 refine zcw F92 rfl rfl rfl (by simp [zan,zcs,AV.pureB]) ?_
 conv=>whnf
 refine clP (zqh (by omega) e he) ?_
 exact ⟨zcy e,rfl,rfl⟩
theorem zy4 (hn:12 ≤ n) (ok:d.Ok) (hr:zap d=true) {D N no:Nat}(hD:hp[D]?=some (dkC d)) (hN:hp[N]?=some (intC no)) (h2:2 ≤ no) (hno:no<zar d) {q:Page}{e:Int}
  (cR:∀ hp w,hp[w]?=some (wriC d) → ∃ h',C (n-1) 93 [.ptr w 0 0,i64 no] hp=some (.ret (.tup [q.av,i64 e]),h') ∧ Keep hp h' []) :
  ∃ r h',C n 90 [.ptr D 0 0,.ptr N 0 0] hp=some (r,h') ∧ r=(if e=0 then .ret q.av else .pan (zcy e)) ∧ Keep hp h' []:=by
 obtain ⟨m,rfl⟩:=pre1 n
 have hz:=(rightD_iff.1 hr).1
 rw [Nat.add_sub_cancel] at cR
 refine zbh F90 rfl rfl ?_
 conv=>whnf
 refine ldI (za8 hD) ?_
 conv=>whnf
 refine clI (z2k (by omega) d ok hr) ?_
 have k1:∀ x,Keep hp (hp++[x]++[dkC d]++[wriC d]) []:=fun x=>((Keep.app _ _ []).trans (Keep.app _ _ []) (by simp)).trans (Keep.app _ _ []) (by simp)
 have hN1:∀ x,(hp++[x]++[dkC d]++[wriC d])[N]?=some (intC no):=fun x=>(k1 x).get hN (by simp)
 have hw:∀ x:AB,(hp++[x]++[dkC d]++[wriC d])[(hp++[x]).length+1]?=some (wriC d):=fun x=>by
  rw [show (hp++[x]).length+1=(hp++[x]++[dkC d]).length by simp];exact zag _ _
 have hX:∀ x:AB,(hp++[x]++[dkC d]++[wriC d])[hp.length]?=some x:=fun x=>by
  rw [List.getElem?_append_left (by simp),List.getElem?_append_left (by simp)];exact zag _ _
 conv=>whnf
 refine ldI (hN1 _) ?_
 conv=>whnf
 refine brd (fun _=>?_) (fun a=>absurd h2 (by omega))
 conv=>whnf
 refine ldI (hN1 _) ?_
 conv=>whnf
 refine clI (zij (by omega) d (hw _) (by omega)) ?_
 refine ⟨?_,?_⟩
 ·repeat' (conv=>whnf);first | done | exact ldI (hN1 _) rfl | exact ldI (hN1 _) rfl | refine ⟨?_,?_⟩ | rfl
 conv=>whnf
 refine clI (zfw (by omega) (by rw [decide_eq_true_iff];omega) 1) ?_
 conv=>whnf
 refine ldI (hN1 _) ?_
 conv=>whnf
 obtain ⟨h3,e3,k3⟩:=cR _ _ (hw (.cells 0 (some 79) zbr 0))
 refine clI e3 ?_
 conv=>whnf
 by_cases c:e=0
 ·subst c
  rw [if_pos rfl]
  refine clI (z26 (by omega) q) ?_
  conv=>whnf
  have g3:=k3.get (hX (.cells 0 (some 79) zbr 0)) (by simp)
  refine stJ (xs:=q.cells) g3 ?_
  exact ⟨_,zce rfl (zho rfl (List.getElem?_set_self (zac g3))),rfl,((k1 _).trans k3 (by simp)).set' (.inr (Nat.le_refl _))⟩
 ·rw [if_neg c]
  refine clP (z27 (by omega) q e c) ?_
  exact ⟨rfl,(k1 _).trans k3 (by simp)⟩
theorem z2g (h:zaa) (q:Page) (e:Int):Abs.frz h 64 (tupA [q.av,i64 e])=some (.tup [q.av,i64 e]):=z06
theorem z1a:fnOk Tryz.prog 90=true:=by kernel_rfl
theorem rpO {P:Page}{E no:Int}(hI:∀ hp,hp[0]?=some (dkC d) → hp[1]?=some (intC no) → ∃ r h',C n 90 [.ptr 0 0 0,.ptr 1 0 0] hp=some (r,h') ∧ r=(if E=0 then .ret P.av else .pan (zcy E)) ∧ Keep hp h' []) (hz:E≠0 → P=zPage) :
  C (n+2) 33 [d.av,i64 no] h=some (.ret (.tup [P.av,i64 E]),h):=by
 obtain ⟨r,h',e0,hr,k0⟩:=hI ([dkC d,intC no,zCPg]++[zCPg]++[errC 0]) rfl rfl
 have g3:=k0.get (x:=3) rfl (by simp)
 have g4:=k0.get (x:=4) rfl (by simp)
 have g2:=k0.get (x:=2) rfl (by simp)
 have main:∃ h3,C (n+1) 89 [.fn (.func 90) [] [.ptr 0 0 0,.ptr 1 0 0]] [dkC d,intC no,zCPg]=some (.ret (.tup [P.av,i64 E]),h3) ∧ h3[2]?=some zCPg:=by
  by_cases c:E=0
  ·subst c
   rw [if_pos rfl] at hr
   subst hr
   obtain ⟨r,h3,e1,rfl,k1⟩:=zyl (m:=n) (hp:=[dkC d,intC no,zCPg]) (cs:=P.cells) z1a e0 rfl rfl g3 g4
   exact ⟨h3,e1,k1.get g2 (by simp)⟩
  ·rw [if_neg c] at hr
   subst hr
   obtain ⟨r,h3,e1,rfl,k1⟩:=zyn (m:=n) (hp:=[dkC d,intC no,zCPg]) (cs:=zTPg) z1a e0 rfl g3 g4
   rw [hz c]
   exact ⟨h3,e1,k1.get g2 (by simp)⟩
 obtain ⟨h3,e1,g⟩:=main
 refine zak F33 rfl rfl rfl (by simp [zan,zb0,AV.pureB]) ?_
 conv=>whnf
 refine clI e1 ?_
 conv=>whnf
 refine stJ (xs:=P.cells) g ?_
 exact ⟨rfl,_,ze9 rfl rfl (List.getElem?_set_self (zac g)) rfl,z2g _ _ _⟩
end
section
variable {n m:Nat}{h hp:zaa}{d:Dk}
theorem z0z (x:zaa) (d:Dk):(x++[dkC d]++[wriC d])[x.length+1]?=some (wriC d):=by
 rw [show x.length+1=(x++[dkC d]).length by simp];exact zag _ _
theorem zk1 (hn:2 ≤ n) {w:Nat}(hw:hp[w]?=some (wriC d)) (hl:d.secs.length ≤ 1099511627776) (h2:2 ≤ zar d):C n 106 [.ptr w 0 0] hp=some (.ret (.tup []),hp):=by
 obtain ⟨m,rfl⟩:=pre1 n
 refine za2 F106 rfl rfl ?_
 conv=>whnf
 refine clI (zij (by omega) d hw hl) ?_
 conv=>whnf
 refine clI (zfw (by omega) (by rw [decide_eq_true_iff];omega) 1) ?_
 exact ⟨rfl,_,rfl,rfl,rfl⟩
theorem zk2 (hn:4 ≤ n) {w:Nat}(hw:hp[w]?=some (wriC d)) (hl:d.secs.length ≤ 1099511627776) (h2:¬ 2 ≤ zar d):C n 106 [.ptr w 0 0] hp=some (.pan (zcy 1),hp):=by
 obtain ⟨m,rfl⟩:=pre1 n
 obtain ⟨r,h',e,rfl,rfl⟩:=zbh (n:=m) (c:=cfg0) (args:=[.ptr w 0 0]) (h:=hp) (R:=fun r h=>r=.pan (zcy 1) ∧ h=hp) F106 rfl rfl (by
  conv=>whnf
  refine clI (zij (by omega) d hw hl) ?_
  conv=>whnf
  refine clP (zro (by omega) (by rw [decide_eq_false_iff_not];omega) 1 (by decide)) ?_
  exact ⟨rfl,rfl⟩)
 exact e
theorem zwk (hn:2 ≤ n) (q:Rt):C n 107 [q.av,i64 0] h=some (.ret q.av,h):=by
 obtain ⟨m,rfl⟩:=pre1 n
 refine zak F107 rfl rfl rfl rfl ?_
 conv=>whnf
 refine clI (zqg (by omega)) ?_
 conv=>whnf
 refine ldI rfl ?_
 conv=>whnf
 refine stJ (xs:=q.cells) (by rfl) ?_
 exact ⟨rfl,_,zce rfl (zy1 rfl rfl),rfl⟩
theorem zwl (hn:2 ≤ n) (q:Rt) (e:Int) (he:e≠0):C n 107 [q.av,i64 e] h=some (.pan (zcy e),h):=by
 obtain ⟨m,rfl⟩:=pre1 n
 refine zcw F107 rfl rfl rfl rfl ?_
 conv=>whnf
 refine clP (zqh (by omega) e he) ?_
 exact ⟨zcy e,rfl,rfl⟩
theorem z10 (hn:5 ≤ n) (ok:d.Ok) (hr:zap d=true) {D N:Nat}{s:Int}(hD:hp[D]?=some (dkC d)) (hN:hp[N]?=some (intC s)) (hno:¬(s=0 ∨ s=1) ∨ ¬ 2 ≤ zar d) :
  ∃ r h',C n 105 [.ptr D 0 0,.ptr N 0 0] hp=some (r,h') ∧ r=.pan (zcy 1) ∧ Keep hp h' []:=by
 obtain ⟨m,rfl⟩:=pre1 n
 have hz:=(rightD_iff.1 hr).1
 refine zbh F105 rfl rfl ?_
 conv=>whnf
 refine ldI (za8 hD) ?_
 conv=>whnf
 refine clI (z2k (by omega) d ok hr) ?_
 have k1:∀ x,Keep hp (hp++[x]++[dkC d]++[wriC d]) []:=fun x=>((Keep.app _ _ []).trans (Keep.app _ _ []) (by simp)).trans (Keep.app _ _ []) (by simp)
 have hN1:∀ x,(hp++[x]++[dkC d]++[wriC d])[N]?=some (intC s):=fun x=>(k1 x).get hN (by simp)
 have hw:∀ x:AB,(hp++[x]++[dkC d]++[wriC d])[(hp++[x]).length+1]?=some (wriC d):=fun x=>z0z _ _
 have hX:∀ x:AB,(hp++[x]++[dkC d]++[wriC d])[hp.length]?=some x:=fun x=>by
  rw [List.getElem?_append_left (by simp),List.getElem?_append_left (by simp)];exact zag _ _
 conv=>whnf
 refine ldI (hN1 _) ?_
 conv=>whnf
 by_cases c:s=0 ∨ s=1
 ·have h2:¬ 2 ≤ zar d:=hno.resolve_left (fun e=>e c)
  rcases c with rfl | rfl
  ·conv=>whnf
   refine clI (zfw (by omega) rfl 1) ?_
   conv=>whnf
   refine clP (zk2 (by omega) (hw _) (by omega) h2) ?_
   exact ⟨rfl,k1 _⟩
  ·conv=>whnf
   refine ldI (hN1 _) ?_
   conv=>whnf
   refine clI (zfw (by omega) rfl 1) ?_
   conv=>whnf
   refine clP (zk2 (by omega) (hw _) (by omega) h2) ?_
   exact ⟨rfl,k1 _⟩
 ·refine bre (fun a=>absurd (Or.inl a) c) (fun _=>?_)
  conv=>whnf
  refine ldI (hN1 _) ?_
  conv=>whnf
  refine clP (zro (by omega) (by rw [beq_eq_false_iff_ne];exact fun a=>c (.inr a)) 1 (by decide)) ?_
  exact ⟨rfl,k1 _⟩
theorem zy3 (hn:12 ≤ n) (ok:d.Ok) (hr:zap d=true) {D N s:Nat}(hD:hp[D]?=some (dkC d)) (hN:hp[N]?=some (intC s)) (hs:s=0 ∨ s=1) (h2:2 ≤ zar d) {q:Rt}{e:Int}
  (cR:∀ hp w,hp[w]?=some (wriC d) → ∃ h',C (n-1) 108 [.ptr w 0 0,i64 s] hp=some (.ret (.tup [q.av,i64 e]),h') ∧ Keep hp h' []) :
  ∃ r h',C n 105 [.ptr D 0 0,.ptr N 0 0] hp=some (r,h') ∧ r=(if e=0 then .ret q.av else .pan (zcy e)) ∧ Keep hp h' []:=by
 obtain ⟨m,rfl⟩:=pre1 n
 rw [Nat.add_sub_cancel] at cR
 generalize hR:(if e=0 then CRes.ret q.av else .pan (zcy e))=R0
 have hz:=(rightD_iff.1 hr).1
 refine zbh F105 rfl rfl ?_
 conv=>whnf
 refine ldI (za8 hD) ?_
 conv=>whnf
 refine clI (z2k (by omega) d ok hr) ?_
 have k1:∀ x,Keep hp (hp++[x]++[dkC d]++[wriC d]) []:=fun x=>((Keep.app _ _ []).trans (Keep.app _ _ []) (by simp)).trans (Keep.app _ _ []) (by simp)
 have hN1:∀ x,(hp++[x]++[dkC d]++[wriC d])[N]?=some (intC s):=fun x=>(k1 x).get hN (by simp)
 have hw:∀ x:AB,(hp++[x]++[dkC d]++[wriC d])[(hp++[x]).length+1]?=some (wriC d):=fun x=>z0z _ _
 have hX:∀ x:AB,(hp++[x]++[dkC d]++[wriC d])[hp.length]?=some x:=fun x=>by
  rw [List.getElem?_append_left (by simp),List.getElem?_append_left (by simp)];exact zag _ _
 conv=>whnf
 refine ldI (hN1 _) ?_
 conv=>whnf
 rcases hs with rfl | rfl
 ·conv=>whnf
  refine clI (zfw (by omega) rfl 1) ?_
  conv=>whnf
  refine clI (zk1 (by omega) (hw _) (by omega) h2) ?_
  conv=>whnf
  refine ldI (hN1 _) ?_
  conv=>whnf
  obtain ⟨h3,e3,k3⟩:=cR _ _ (hw (.cells 0 (some zez) Rt.zero.cells 0))
  refine clI e3 ?_
  conv=>whnf
  by_cases c:e=0
  ·subst c
   rw [if_pos rfl] at hR
   subst hR
   refine clI (zwk (by omega) q) ?_
   conv=>whnf
   have g3:=k3.get (hX (.cells 0 (some zez) Rt.zero.cells 0)) (by simp)
   refine stJ (xs:=q.cells) g3 ?_
   exact ⟨_,zce rfl (zy1 rfl (List.getElem?_set_self (zac g3))),rfl,((k1 _).trans k3 (by simp)).set' (.inr (Nat.le_refl _))⟩
  ·rw [if_neg c] at hR
   subst hR
   refine clP (zwl (by omega) q e c) ?_
   exact ⟨rfl,(k1 _).trans k3 (by simp)⟩
 ·conv=>whnf
  refine ldI (hN1 _) ?_
  conv=>whnf
  refine clI (zfw (by omega) rfl 1) ?_
  conv=>whnf
  refine clI (zk1 (by omega) (hw _) (by omega) h2) ?_
  conv=>whnf
  refine ldI (hN1 _) ?_
  conv=>whnf
  obtain ⟨h3,e3,k3⟩:=cR _ _ (hw (.cells 0 (some zez) Rt.zero.cells 0))
  refine clI e3 ?_
  conv=>whnf
  by_cases c:e=0
  ·subst c
   rw [if_pos rfl] at hR
   subst hR
   refine clI (zwk (by omega) q) ?_
   conv=>whnf
   have g3:=k3.get (hX (.cells 0 (some zez) Rt.zero.cells 0)) (by simp)
   refine stJ (xs:=q.cells) g3 ?_
   exact ⟨_,zce rfl (zy1 rfl (List.getElem?_set_self (zac g3))),rfl,((k1 _).trans k3 (by simp)).set' (.inr (Nat.le_refl _))⟩
  ·rw [if_neg c] at hR
   subst hR
   refine clP (zwl (by omega) q e c) ?_
   exact ⟨rfl,(k1 _).trans k3 (by simp)⟩
end
section
variable {n m:Nat}{h hp:zaa}{d:Dk}
theorem z1x (h:zaa) (q:Rt) (e:Int):Abs.frz h 64 (tupA [q.av,i64 e])=some (.tup [q.av,i64 e]):=rfl
theorem z09:fnOk Tryz.prog 105=true:=by kernel_rfl
theorem rrO {P:Rt}{E s:Int}(hI:∀ hp,hp[0]?=some (dkC d) → hp[1]?=some (intC s) → ∃ r h',C n 105 [.ptr 0 0 0,.ptr 1 0 0] hp=some (r,h') ∧ r=(if E=0 then .ret P.av else .pan (zcy E)) ∧ Keep hp h' []) (hz:E≠0 → P=Rt.zero) :
  C (n+2) 41 [d.av,i64 s] h=some (.ret (.tup [P.av,i64 E]),h):=by
 obtain ⟨r,h',e0,hr,k0⟩:=hI ([dkC d,intC s,zCRt]++[zCRt]++[errC 0]) rfl rfl
 have g3:=k0.get (x:=3) rfl (by simp)
 have g4:=k0.get (x:=4) rfl (by simp)
 have g2:=k0.get (x:=2) rfl (by simp)
 have main:∃ h3,C (n+1) 104 [.fn (.func 105) [] [.ptr 0 0 0,.ptr 1 0 0]] [dkC d,intC s,zCRt]=some (.ret (.tup [P.av,i64 E]),h3) ∧ h3[2]?=some zCRt:=by
  by_cases c:E=0
  ·subst c
   rw [if_pos rfl] at hr
   subst hr
   obtain ⟨r,h3,e1,rfl,k1⟩:=zyk (m:=n) (hp:=[dkC d,intC s,zCRt]) (cs:=P.cells) z09 e0 rfl rfl g3 g4
   exact ⟨h3,e1,k1.get g2 (by simp)⟩
  ·rw [if_neg c] at hr
   subst hr
   obtain ⟨r,h3,e1,rfl,k1⟩:=zym (m:=n) (hp:=[dkC d,intC s,zCRt]) (cs:=zTRt) z09 e0 rfl g3 g4
   rw [hz c]
   exact ⟨h3,e1,k1.get g2 (by simp)⟩
 obtain ⟨h3,e1,g⟩:=main
 refine zak F41 rfl rfl rfl (by simp [zan,zb0,AV.pureB]) ?_
 conv=>whnf
 refine clI e1 ?_
 conv=>whnf
 refine stJ (xs:=P.cells) g ?_
 exact ⟨rfl,_,znk rfl rfl (List.getElem?_set_self (zac g)) rfl,z1x _ _ _⟩
end
abbrev tRtF:Nat:=200
section
variable {n m:Nat}{h hp:zaa}{d:Dk}
end
section
variable {n m:Nat}{h hp:zaa}{d:Dk}
end
end Go.Proofs
