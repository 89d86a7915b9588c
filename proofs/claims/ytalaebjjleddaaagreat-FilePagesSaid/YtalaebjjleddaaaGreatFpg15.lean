/- Texts put together: Uc, Ud, Ut, Uf, Ug, Uh, Ui, Ya, Zw, Zy, Uj. -/
import Derived.Test.YtalaebjjleddaaaGreatFpg14
import Derived.Test.YtalaebjjleddaaaGreatFpg12
import Derived.Test.YtalaebjjleddaaaGreatFpg13
set_option linter.unusedVariables false
set_option linter.unusedSimpArgs false
namespace Go.Proofs
open Go Go.Abs
abbrev u8 (k:Int):AV:=.int .u8 k
def outN (pl:List Int) (i:Nat):Nat:=if pl.length ≤ i then 64 else if pl.getD i 0=255 then 64 else (pl.getD i 0).toNat % 65
theorem zwy (pl:List Int) (i:Nat):outN pl i ≤ 64:=by
 unfold outN
 split
 ·exact Nat.le_refl _
 ·split
  ·exact Nat.le_refl _
  ·omega
theorem zr5 (i:Nat):outN [] i=64:=rfl
def zkt (was data:Str) (n:Nat):Str:=data.take n++was.drop n
def crS (pl:List Int):List Wr → Nat → Str → Int → Str
 | [],_,s,_=>s
 | w::r,i,s,x=>crS pl r (i+1) (if w.sec=x then zkt s w.data (outN pl i) else s) x
theorem zsu (pl:List Int) (x:Int) (w:Wr):∀ (r:List Wr) (i:Nat) (s:Str),crS pl (r++[w]) i s x=if w.sec=x then zkt (crS pl r i s x) w.data (outN pl (i+r.length)) else crS pl r i s x
 | [],i,s=>by simp [crS]
 | v::r,i,s=>by
  show crS pl (r++[w]) (i+1) _ x=_
  rw [zsu pl x w r (i+1)]
  rw [List.length_cons,show i+1+r.length=i+(r.length+1) by omega]
  rfl
def insK (ks:List Int) (k:Int):List Int:=if k∈ks then ks else ks++[k]
def whK (pl:List Int):List Wr → Nat → List Int → List Int
 | [],_,ks=>ks
 | w::r,i,ks=>whK pl r (i+1) (if outN pl i=64 then insK ks w.sec else ks)
theorem zrl (pl:List Int) (w:Wr):∀ (r:List Wr) (i:Nat) (ks:List Int),whK pl (r++[w]) i ks=if outN pl (i+r.length)=64 then insK (whK pl r i ks) w.sec else whK pl r i ks
 | [],i,ks=>by simp [whK]
 | v::r,i,ks=>by
  show whK pl (r++[w]) (i+1) _=_
  rw [zrl pl w r (i+1)]
  rw [List.length_cons,show i+1+r.length=i+(r.length+1) by omega]
  rfl
theorem z1c {ks:List Int}{k x:Int}:x∈insK ks k ↔ x∈ks ∨ x=k:=by
 unfold insK
 split
 ·rename_i h
  exact ⟨.inl,fun q=>q.elim id fun e=>by subst e;exact h⟩
 ·simp
def crL (pl:List Int) (d:Dk) (j:Nat):List Str:=(List.range d.secs.length).map fun x=>crS pl (d.ws.take j) 0 (d.secs.getD x []) (x:Int)
theorem zfr (pl:List Int) (d:Dk) (j:Nat):(crL pl d j).length=d.secs.length:=by simp [crL]
theorem zpj {pl:List Int}{d:Dk}{j x:Nat}(hx:x<(crL pl d j).length):(crL pl d j)[x]=crS pl (d.ws.take j) 0 (d.secs.getD x []) (x:Int):=by simp [crL]
theorem z2e (pl:List Int) (d:Dk):crL pl d 0=d.secs:=by
 apply List.ext_getElem
 ·rw [zfr]
 ·intro i h1 h2
  rw [zpj]
  simp [crS,List.getD_eq_getElem?_getD,List.getElem?_eq_getElem h2]
theorem zsv {pl:List Int}{d:Dk}{j x:Nat}(hj:j<d.ws.length) (e:d.ws[j].sec=(x:Int)) (hx:x<(crL pl d j).length):crL pl d (j+1)=(crL pl d j).set x (zkt (crL pl d j)[x] d.ws[j].data (outN pl j)):=by
 apply List.ext_getElem
 ·rw [List.length_set,zfr,zfr]
 ·intro i h1 h2
  rw [zpj,List.getElem_set,zb4 hj,zsu,e]
  by_cases c:x=i
  ·subst c
   rw [if_pos rfl,if_pos rfl,zpj,List.length_take,Nat.min_eq_left (by omega),Nat.zero_add]
  ·rw [if_neg (by omega),if_neg c,zpj]
theorem zz5 {was data:Str}{n:Nat}(h1:was.length=64) (h2:data.length=64) (h3:n ≤ 64):(zkt was data n).length=64:=by
 unfold zkt;simp;omega
theorem zym {d:Dk}(hr:zan d=true) (pl:List Int) (x:Int):∀ (ws:List Wr) (i:Nat) (s:Str),(∀ w∈ws,w∈d.ws) → s.length=64 → (crS pl ws i s x).length=64
 | [],_,s,_,h=>h
 | w::r,i,s,hw,h=>by
  refine zym hr pl x r (i+1) _ (fun v hv=>hw v (by simp [hv])) ?_
  split
  ·have:=(rightD_iff.1 hr).2.2.1 _ (hw w (by simp))
   unfold wrOk at this
   simp only [Bool.and_eq_true,decide_eq_true_eq] at this
   exact zz5 h this.2.2 (zwy _ _)
  ·exact h
theorem z3d {d:Dk}(hr:zan d=true) (pl:List Int) (j:Nat):∀ s∈crL pl d j,s.length=64:=fun s hs=>by
 obtain ⟨x,hx,rfl⟩:=List.mem_map.1 hs
 have hx:=List.mem_range.1 hx
 refine zym hr pl x _ 0 _ (fun w hw=>List.mem_of_mem_take hw) ?_
 rw [List.getD_eq_getElem?_getD,List.getElem?_eq_getElem hx]
 exact (rightD_iff.1 hr).2.1 _ (List.getElem_mem hx)
def mapK (ks:List Int):List (AV × AV):=ks.map fun k=>(i64 k,.bool true)
theorem zjo (k:Int):∀ (ks:List Int) (i:Nat),(k∈ks → ∃ j,zij (i64 k) (mapK ks) i=some (i+j,.bool true) ∧ (mapK ks)[j]?=some (i64 k,.bool true)) ∧ (k ∉ ks → zij (i64 k) (mapK ks) i=none)
 | [],i=>⟨fun h=>by simp at h,fun _=>rfl⟩
 | a::r,i=>by
  have ih:=zjo k r (i+1)
  constructor
  ·intro h
   by_cases c:k=a
   ·subst c
    refine ⟨0,?_,rfl⟩
    show (if zjs (i64 k) (i64 k) then some (i,AV.bool true) else _)=_
    rw [if_pos (by simp [zjs])]
    rfl
   ·obtain ⟨j,h1,h2⟩:=ih.1 (by simpa [c] using h)
    refine ⟨j+1,?_,h2⟩
    show (if zjs (i64 k) (i64 a) then some (i,AV.bool true) else zij (i64 k) (mapK r) (i+1))=_
    rw [if_neg (by simp [zjs,c]),h1]
    congr 2
    omega
  ·intro h
   have c:k≠a:=fun e=>h (by simp [e])
   show (if zjs (i64 k) (i64 a) then some (i,AV.bool true) else zij (i64 k) (mapK r) (i+1))=_
   rw [if_neg (by simp [zjs,c])]
   exact ih.2 fun q=>h (by simp [q])
theorem z24 (ks:List Int):(mapK ks).all (fun p=>zc9 (.int .i64) p.1)=true:=by
 rw [List.all_eq_true]
 intro p hp
 obtain ⟨k,_,rfl⟩:=List.mem_map.1 hp
 rfl
theorem upd_K {P:Program}{t kt e:TypeId}{h:zaa}{b:Nat}{ks:List Int}(ht:P.underlying t=some (.map kt e)) (hk:P.underlying kt=some (.int .i64)) (hb:h[b]?=some (.map (mapK ks))) (k:Int):updA P h t (.map b) (i64 k) (.bool true)=some (h.set b (.map (mapK (insK ks k)))):=by
 have h1:(zc9 (.int .i64) (i64 k)&&(mapK ks).all (fun p=>zc9 (.int .i64) p.1))=true:=by rw [z24];rfl
 unfold updA
 simp only [ht,hk,hb]
 rw [if_pos h1]
 by_cases c:k∈ks
 ·obtain ⟨j,h1,h2⟩:=(zjo k ks 0).1 c
  rw [h1]
  simp only [Nat.zero_add]
  have:(mapK ks).set j (i64 k,.bool true)=mapK ks:=by
   apply List.ext_getElem?
   intro x
   rw [List.getElem?_set]
   split
   ·rename_i q;subst q;split
    ·exact h2.symm
    ·rename_i q;rw [List.getElem?_eq_none (by omega)] at h2;cases h2
   ·rfl
  rw [this,insK,if_pos c]
 ·rw [(zjo k ks 0).2 c]
  simp only
  rw [insK,if_neg c]
  simp [mapK]
theorem look_K {P:Program}{t kt e:TypeId}{h:zaa}{b:Nat}{ks:List Int}(ht:P.underlying t=some (.map kt e)) (hk:P.underlying kt=some (.int .i64)) (hz:z3n P e=some (.bool false)) (hb:h[b]?=some (.map (mapK ks))) (k:Int):zt7 P h t (.map b) (i64 k) false=some (.bool (decide (k∈ks))):=by
 have h1:(zc9 (.int .i64) (i64 k)&&(mapK ks).all (fun p=>zc9 (.int .i64) p.1))=true:=by rw [z24];rfl
 unfold zt7 z1d
 simp only [ht,hk,hb]
 rw [if_pos h1]
 by_cases c:k∈ks
 ·obtain ⟨j,h1,h2⟩:=(zjo k ks 0).1 c
  rw [h1]
  simp [c]
 ·rw [(zjo k ks 0).2 c]
  simp [hz,c]
section
variable {n m:Nat}{h hp:zaa}
theorem zrp (k:Int):(u8 k).cells?=some [u8 k]:=rfl
theorem zvq (k:Int):(u8 k).pureB=true:=rfl
theorem zt2 (hn:1 ≤ n) (pl:List Int) (hp:∀ k∈pl,0 ≤ k ∧ k<256) {sz:Nat}(hz:pl≠[] → sz=1) (c:Bool) (i:Nat) (hl:pl.length<1073741824):C n 158 [.lst sz (pl.map u8) c,i64 i] h=some (.ret (i64 (outN pl i)),h):=by
 obtain ⟨m,rfl⟩:=pre1 n
 have el:(pl.map u8).length=pl.length:=List.length_map ..
 refine zak F158 rfl rfl rfl (by simp [zam,AV.pureB,zcb zvq]) ?_
 conv=>whnf
 refine brd (fun a=>?_) (fun a=>?_)
 ·have hi:pl.length ≤ i:=by omega
  conv=>whnf
  exact ⟨rfl,_,rfl,by unfold outN;rw [if_pos hi];rfl⟩
 ·have hi:i<pl.length:=by omega
  have hb:=hp _ (List.getElem_mem hi)
  have eg:pl.getD i 0=pl[i]:=by simp [List.getD_eq_getElem?_getD,hi]
  conv=>whnf
  refine ixL zrp hi hz ?_
  conv=>whnf
  refine brd (fun a2=>?_) (fun a2=>?_)
  ·conv=>whnf
   exact ⟨rfl,_,rfl,by unfold outN;rw [if_neg (by omega),if_pos (by rw [eg];exact a2)];rfl⟩
  ·conv=>whnf
   refine ixL zrp hi hz ?_
   conv=>whnf
   refine zI (z:=pl[i]) (zae (by omega) (by omega)) ?_
   conv=>whnf
   refine remI (z:=((outN pl i:Nat):Int)) (by decide) (by unfold outN;rw [if_neg (by omega),eg,if_neg a2,Int.tmod_eq_emod_of_nonneg hb.1];omega) ?_
   conv=>whnf
   exact ⟨rfl,_,rfl,rfl⟩
theorem z3u (hn:1 ≤ n) (was data:Str) (k:Nat) (h1:k ≤ was.length) (h2:k ≤ data.length) (h3:was.length ≤ 1000) (h4:data.length ≤ 1000):C n 159 [.str was,.str data,i64 k] h=some (.ret (.str (zkt was data k)),h):=by
 obtain ⟨m,rfl⟩:=pre1 n
 refine zak F159 rfl rfl rfl rfl ?_
 conv=>whnf
 refine ztf h2 ?_
 conv=>whnf
 refine z30 h1 ?_
 conv=>whnf
 refine ⟨by simp;omega,?_⟩
 conv=>whnf
 exact ⟨rfl,_,rfl,rfl⟩
structure CH (pl:List Int) (d:Dk) (j:Nat) (L:AV) (h:zaa):Prop where
 d0:h[0]?=some (dkC d)
 d1:h[1]?=some (.cells 0 (some zc2) [.lst 0 [] true,.lst 0 [] true,.lst 0 [] true] 0)
 d2:h[2]?=some (.cells 0 (some tStr) ((crL pl d j).map .str) 0)
 d3:h[3]?=some (.cells 0 (some zc2) [.sl 1 2 0 0 d.secs.length,.lst 0 [] true,L] 0)
 d4:h[4]?=some (.map (mapK (whK pl (d.ws.take j) 0 [])))
theorem CH.lt {pl:List Int}{d:Dk}{j:Nat}{L:AV}{h:zaa}(a:CH pl d j L h):4<h.length:=zab a.d4
theorem CH.keep {pl:List Int}{d:Dk}{j:Nat}{L:AV}{h h':zaa}(a:CH pl d j L h) (k:∀ x,x ≤ 4 → h'[x]?=h[x]?):CH pl d j L h' :=
 ⟨by rw [k 0 (by omega)];exact a.d0,by rw [k 1 (by omega)];exact a.d1,by rw [k 2 (by omega)];exact a.d2,by rw [k 3 (by omega)];exact a.d3,by rw [k 4 (by omega)];exact a.d4⟩
theorem zqy (hm:1 ≤ m) (d:Dk) (ok:d.Ok) (hr:zan d=true) (pl:List Int) (pb:∀ k∈pl,0 ≤ k ∧ k<256) {sz:Nat}(hz:pl≠[] → sz=1) (c:Bool) (hl:pl.length<1073741824) {Q:Ex → LS → Prop}{s:LS}(h0:zaa) (g0:CH pl d 0 (.lst 0 [] true) h0)
  (hs:LS.sub ⟨[(1,.lst sz (pl.map u8) c),(2,.ptr 0 0 0),(4,.ptr 1 0 0),(5,.ptr 3 0 0),(6,.map 4),(18,wsA d),(19,i64 d.ws.length),(20,i64 0)],h0,[]⟩ s)
  (hE:∀ L h,CH pl d d.ws.length (.lst 0 [] true) h → subL [(2,.ptr 0 0 0),(4,.ptr 1 0 0),(5,.ptr 3 0 0),(6,.map 4)] L → Q (.exit 0) ⟨L,h,[]⟩) :
  OkR Tryz.prog (C m) cfg0.inl KK 68 7 (.loop (c88.lp 0)) s Q:=by
 have hq:=rightD_iff.1 hr
 refine za1 (by decide) rfl (α:=Nat × zaa) (fun x=>⟨[(1,.lst sz (pl.map u8) c),(2,.ptr 0 0 0),(4,.ptr 1 0 0),(5,.ptr 3 0 0),(6,.map 4),(18,wsA d),(19,i64 d.ws.length),(20,i64 x.1)],x.2,[]⟩) (fun x=>x.1 ≤ d.ws.length ∧ CH pl d x.1 (.lst 0 [] true) x.2) (fun x=>d.ws.length-x.1) (0,h0) hs ⟨Nat.zero_le _,g0⟩ (by simp only [KK];omega) ?_
 rintro ⟨j,hp⟩ ⟨g1,g2⟩
 simp only at g1 g2
 conv=>whnf
 refine brd (fun a=>?_) (fun a=>?_)
 ·have hj:j<d.ws.length:=by omega
  have hw:=hq.2.2.1 _ (List.getElem_mem hj)
  unfold wrOk at hw
  simp only [Bool.and_eq_true,decide_eq_true_eq] at hw
  have nl:=g2.lt
  have gl:=zaf hp (.cells 0 (some 52) [.int .i64 0,.str []] 0) (.cells 0 (some 52) (putAt [.int .i64 0,.str []] 0 d.ws[j].cells) 0)
  have g3:=g2.keep (h':=(hp++[AB.cells 0 (some 52) [.int .i64 0,.str []] 0]).set hp.length (AB.cells 0 (some 52) (putAt [.int .i64 0,.str []] 0 d.ws[j].cells) 0)) (fun x hx=>by rw [List.getElem?_set_ne (by omega),List.getElem?_append_left (by omega)])
  have cO:=fun h=>zt2 (n:=m) (h:=h) (by omega) pl pb hz c j hl
  conv=>whnf
  refine ixL zc1 hj ok.sw ?_
  conv=>whnf
  refine stJ (xs:=d.ws[j].cells) (zad _ _) ?_
  conv=>whnf
  refine clI (cO _) ?_
  have hx:d.ws[j].sec.toNat<(crL pl d j).length:=by rw [zfr];omega
  have ex:d.ws[j].sec=((d.ws[j].sec.toNat:Nat):Int):=by omega
  have h64:=z3d hr pl j _ (List.getElem_mem hx)
  have oL:=zwy pl j
  have e0:((crL pl d j).map AV.str)[0+d.ws[j].sec.toNat*1]?=some (.str (crL pl d j)[d.ws[j].sec.toNat]):=by rw [Nat.zero_add,Nat.mul_one];exact zrr hx
  have cT:=fun h=>z3u (n:=m) (h:=h) (by omega) (crL pl d j)[d.ws[j].sec.toNat] d.ws[j].data (outN pl j) (by omega) (by omega) (by omega) (by omega)
  conv=>whnf
  refine ldI g3.d3 ?_
  conv=>whnf
  refine ldI gl ?_
  conv=>whnf
  refine ldI g3.d3 ?_
  conv=>whnf
  refine ldI gl ?_
  conv=>whnf
  refine ⟨by omega,by omega,rfl,?_⟩
  conv=>whnf
  refine ldI g3.d2 ?_
  refine zdd (v:=.str (crL pl d j)[d.ws[j].sec.toNat]) e0 ?_
  conv=>whnf
  refine ldI gl ?_
  conv=>whnf
  refine clI (cT _) ?_
  conv=>whnf
  refine ⟨by omega,by omega,rfl,?_⟩
  conv=>whnf
  refine stI (xs:=[.str (zkt (crL pl d j)[d.ws[j].sec.toNat] d.ws[j].data (outN pl j))]) g3.d2 (by rfl) (by rfl) (by rw [Nat.ble_eq,List.length_map];simp;omega) (by rfl) ?_
  conv=>whnf
  have n3:4<((hp++[AB.cells 0 (some 52) [.int .i64 0,.str []] 0]).set hp.length (AB.cells 0 (some 52) (putAt [.int .i64 0,.str []] 0 d.ws[j].cells) 0)).length:=g3.lt
  have kW:whK pl (d.ws.take (j+1)) 0 []=if outN pl j=64 then insK (whK pl (d.ws.take j) 0 []) d.ws[j].sec else whK pl (d.ws.take j) 0 []:=by
   rw [zb4 hj,zrl,List.length_take,Nat.min_eq_left (by omega),Nat.zero_add]
  refine brd (fun a=>?_) (fun a=>?_)
  ·have h6:outN pl j=64:=by omega
   rw [if_pos h6] at kW
   conv=>whnf
   refine ldI ((List.getElem?_set_ne (show 2≠hp.length by omega)).trans gl) ?_
   conv=>whnf
   refine ⟨_,upd_K (kt:=3) (e:=4) (ks:=whK pl (d.ws.take j) 0 []) (by kernel_rfl) (by kernel_rfl) (by rw [List.getElem?_set_ne (by decide)];exact g3.d4) _,?_⟩
   conv=>whnf
   refine zJ j ?_
   refine nxI (j+1,_) ⟨hj,?_,?_,?_,?_,?_⟩ (by simp only;omega) ⟨⟨rfl,rfl,rfl,rfl,rfl,rfl,rfl,rfl⟩,rfl,rfl⟩
   ·rw [List.getElem?_set_ne (by decide),List.getElem?_set_ne (by decide)];exact g3.d0
   ·rw [List.getElem?_set_ne (by decide),List.getElem?_set_ne (by decide)];exact g3.d1
   ·rw [List.getElem?_set_ne (by decide),List.getElem?_set_self (zab g3.d2),zsv hj ex hx,← zg8 hx]
    simp
   ·rw [List.getElem?_set_ne (by decide),List.getElem?_set_ne (by decide)];exact g3.d3
   ·rw [List.getElem?_set_self (by rw [List.length_set];exact n3),kW]
  ·have h6:¬ outN pl j=64:=by omega
   rw [if_neg h6] at kW
   conv=>whnf
   refine zJ j ?_
   refine nxI (j+1,_) ⟨hj,?_,?_,?_,?_,?_⟩ (by simp only;omega) ⟨⟨rfl,rfl,rfl,rfl,rfl,rfl,rfl,rfl⟩,rfl,rfl⟩
   ·rw [List.getElem?_set_ne (by decide)];exact g3.d0
   ·rw [List.getElem?_set_ne (by decide)];exact g3.d1
   ·rw [List.getElem?_set_self (zab g3.d2),zsv hj ex hx,← zg8 hx]
    simp
   ·rw [List.getElem?_set_ne (by decide)];exact g3.d3
   ·rw [List.getElem?_set_ne (by decide),kW];exact g3.d4
 ·have hj:j=d.ws.length:=by omega
  subst hj
  conv=>whnf
  exact hE _ _ g2 ⟨rfl,rfl,rfl,rfl⟩
abbrev kpB (pl:List Int) (d:Dk) (j:Nat):List Int:=(d.bad.take j).filter fun b=>!decide (b∈whK pl (d.ws.take d.ws.length) 0 [])
theorem zsc {pl:List Int}{d:Dk}{j:Nat}(hj:j<d.bad.length):kpB pl d (j+1)=if d.bad[j]∈whK pl (d.ws.take d.ws.length) 0 [] then kpB pl d j else kpB pl d j++[d.bad[j]]:=by
 unfold kpB
 rw [zb4 hj,List.filter_append]
 by_cases c:d.bad[j]∈whK pl (d.ws.take d.ws.length) 0 []
 ·rw [if_pos c,List.filter_cons_of_neg (by simpa using c),List.filter_nil,List.append_nil]
 ·rw [if_neg c,List.filter_cons_of_pos (by simpa using c),List.filter_nil]
theorem zo1 (h:zaa) {x:AV}{row:List AV}{sz:Nat}{c:Bool}(hs:x.cells?=some row) (hl:row.length=sz):zav h sz 1 (.lst sz [x] c)=some row:=by
 unfold zav
 simp only
 rw [if_pos ⟨Nat.le_refl _,.inl trivial⟩]
 simp [hs,hl]
theorem zqx (d:Dk) (ok:d.Ok) (hr:zan d=true) (pl:List Int) {Q:Ex → LS → Prop}{s:LS}(h0:zaa) (g0:CH pl d d.ws.length (.lst 0 [] true) h0)
  (hs:LS.sub ⟨[(4,.ptr 1 0 0),(5,.ptr 3 0 0),(6,.map 4),(50,badA d),(51,i64 d.bad.length),(52,i64 0)],h0,[]⟩ s)
  (hE:∀ L h B,CH pl d d.ws.length B h → LB 3 1 h B (((kpB pl d d.bad.length).map i64).map fun x=>[x]) → (∀ y,ownB B y → 5 ≤ y) → subL [(4,.ptr 1 0 0),(5,.ptr 3 0 0)] L → Q (.exit 2) ⟨L,h,[]⟩) :
  OkR Tryz.prog (C m) cfg0.inl KK 68 7 (.loop (c88.lp 1)) s Q:=by
 obtain ⟨⟨z1,z2,z3⟩,-,-,z4⟩:=rightD_iff.1 hr
 have hb:d.bad.length ≤ 32768:=zkj z2 (Nat.le_refl _) fun i hi _=>z4 i hi
 refine za1 (by decide) rfl (α:=Nat × AV × zaa) (fun x=>⟨[(4,.ptr 1 0 0),(5,.ptr 3 0 0),(6,.map 4),(50,badA d),(51,i64 d.bad.length),(52,i64 x.1)],x.2.2,[]⟩) (fun x=>x.1 ≤ d.bad.length ∧ CH pl d d.ws.length x.2.1 x.2.2 ∧ LB 3 1 x.2.2 x.2.1 (((kpB pl d x.1).map i64).map fun x=>[x]) ∧ ∀ y,ownB x.2.1 y → 5 ≤ y) (fun x=>d.bad.length-x.1) (0,.lst 0 [] true,h0) hs ⟨Nat.zero_le _,g0,⟨by simp [kpB],.inl ⟨0,rfl,by simp [kpB]⟩⟩,fun y o=>o.elim⟩ (by simp only [KK];omega) ?_
 rintro ⟨j,B,hp⟩ ⟨g1,g2,g3,g4⟩
 simp only at g1 g2 g3 g4
 conv=>whnf
 refine brd (fun a=>?_) (fun a=>?_)
 ·have hj:j<d.bad.length:=by omega
  have nl:=g2.lt
  conv=>whnf
  refine ixL zcr hj ok.sb ?_
  conv=>whnf
  refine ⟨_,look_K (kt:=3) (e:=4) (by kernel_rfl) (by kernel_rfl) (by kernel_rfl) g2.d4 _,?_⟩
  conv=>whnf
  refine brn (fun a2=>?_) (fun a2=>?_)
  ·have hk:d.bad[j] ∉ whK pl (d.ws.take d.ws.length) 0 []:=of_decide_eq_false a2
   have ks:=zsc (pl:=pl) hj
   rw [if_neg hk] at ks
   obtain ⟨v,h',ea,l1,n1,k1,o1⟩:=g3.app (x:=.lst 1 [i64 d.bad[j]] true) rfl (zo1 hp rfl rfl) ⟨rfl,rfl⟩ (by
    have:(kpB pl d j).length ≤ d.bad.length:=Nat.le_trans (List.length_filter_le _ _) (by simp;omega)
    simp;omega)
   have g5:=g2.keep (h':=h') fun x hx=>k1 x (by omega) fun o=>by have:=g4 x o;omega
   conv=>whnf
   refine ldI g2.d3 ?_
   conv=>whnf
   refine ⟨rfl,?_⟩
   conv=>whnf
   refine apI5 ea ?_
   conv=>whnf
   refine stI (xs:=[v]) g5.d3 l1.cells.2 (by rfl) (by rfl) (by rfl) ?_
   conv=>whnf
   refine zJ j ?_
   have o2:∀ y,ownB v y → 5 ≤ y:=fun y o=>(o1 y o).elim (g4 y) fun q=>by omega
   refine nxI (j+1,v,_) ⟨hj,⟨?_,?_,?_,?_,?_⟩,?_,o2⟩ (by simp only;omega) ⟨⟨rfl,rfl,rfl,rfl,rfl,rfl⟩,rfl,rfl⟩
   ·rw [List.getElem?_set_ne (by decide)];exact g5.d0
   ·rw [List.getElem?_set_ne (by decide)];exact g5.d1
   ·rw [List.getElem?_set_ne (by decide)];exact g5.d2
   ·rw [List.getElem?_set_self (zab g5.d3)];rfl
   ·rw [List.getElem?_set_ne (by decide)];exact g5.d4
   ·rw [ks,List.map_append,List.map_append]
    exact l1.keep fun x hx o=>by rw [List.getElem?_set_ne];have:=o2 x o;omega
  ·have hk:d.bad[j]∈whK pl (d.ws.take d.ws.length) 0 []:=of_decide_eq_true a2
   have ks:=zsc (pl:=pl) hj
   rw [if_pos hk] at ks
   conv=>whnf
   refine zJ j ?_
   exact nxI (j+1,B,hp) ⟨hj,g2,by rw [ks];exact g3,g4⟩ (by simp only;omega) ⟨⟨rfl,rfl,rfl,rfl,rfl,rfl⟩,rfl,rfl⟩
 ·have hj:j=d.bad.length:=by omega
  subst hj
  conv=>whnf
  exact hE _ _ B g2 g3 g4 ⟨rfl,rfl⟩
theorem z3a (n:Nat) {h:zaa}{S W B:AV}{secs:List Str}{ws:List Wr}{bad:List Int}(s:LB tStr 1 h S ((secs.map AV.str).map fun x=>[x])) (w:LB tDW 2 h W (ws.map Wr.cells)) (b:LB 3 1 h B ((bad.map i64).map fun x=>[x])) (hb:bad.length<KK) :
  ∃ d':Dk,d'.secs=secs ∧ d'.ws=ws ∧ d'.bad=bad ∧ d'.Ok ∧ Abs.frz h (n+3) (.agg [S,W,B])=some d'.av:=by
 obtain ⟨s1,e1,z1⟩:=s.frz1 (n:=n+1) fun x hx=>by obtain ⟨y,_,rfl⟩:=List.mem_map.1 hx;rfl
 obtain ⟨s3,e3,z3⟩:=b.frz1 (n:=n+1) fun x hx=>by obtain ⟨y,_,rfl⟩:=List.mem_map.1 hx;rfl
 obtain ⟨s2,e2,z2⟩:=w.frzR (by decide) (n:=n+1) (zda fun x hx=>by
  obtain ⟨r,hr,hx⟩:=List.mem_flatten.1 hx
  obtain ⟨y,_,rfl⟩:=List.mem_map.1 hr
  simp only [Wr.cells,List.mem_cons,List.not_mem_nil,or_false] at hx
  rcases hx with rfl | rfl<;>rfl)
 rw [List.map_map] at e2
 refine ⟨⟨s1,secs,s2,ws,s3,bad⟩,rfl,rfl,rfl,⟨fun q=>z1 (by simpa using q),fun q=>z2 (by simpa using q),fun q=>z3 (by simpa using q),hb⟩,?_⟩
 show (allM (Abs.frz h (n+2)) [S,W,B]).map AV.agg=_
 simp only [allM,e1,e2,e3]
 rfl
theorem zus (hn:3 ≤ n) (d:Dk) (ok:d.Ok) (hr:zan d=true) (pl:List Int) (pb:∀ k∈pl,0 ≤ k ∧ k<256) {sz:Nat}(hz:pl≠[] → sz=1) (c:Bool) (hl:pl.length<1073741824) :
  ∃ d':Dk,d'.secs=crL pl d d.ws.length ∧ d'.ws=[] ∧ d'.bad=kpB pl d d.bad.length ∧ d'.Ok ∧ ∀ h,C n 88 [d.av,.lst sz (pl.map u8) c] h=some (.ret d'.av,h):=by
 obtain ⟨m,rfl⟩:=pre1 n
 obtain ⟨⟨z1,z2,z3⟩,-,-,z4⟩:=rightD_iff.1 hr
 have hne:d.secs≠[]:=fun e=>by rw [e] at z1;simp at z1
 have hX:∃ r',(∀ h,C (m+1) 88 [d.av,.lst sz (pl.map u8) c] h=some (r',h)) ∧ ∃ d':Dk,d'.secs=crL pl d d.ws.length ∧ d'.ws=[] ∧ d'.bad=kpB pl d d.bad.length ∧ d'.Ok ∧ r'=.ret d'.av:=by
  refine zfn F88 rfl rfl rfl (by simp [zam,zbk,AV.pureB,zcb zvq]) ?_
  conv=>whnf
  refine ldI rfl ?_
  conv=>whnf
  have cS:=zka (n:=m) (hp:=[dkC d,.cells 0 (some zc2) [.lst 0 [] true,.lst 0 [] true,.lst 0 [] true] 0]) (by omega) d.secs hne (by omega) d.ssh.c
  have es:zp5 d=.lst 1 (d.secs.map .str) d.ssh.c:=by show AV.lst _ _ _=_;rw [ok.ss hne]
  rw [← es] at cS
  refine clI cS ?_
  conv=>whnf
  refine stJ (xs:=[.sl 1 2 0 0 d.secs.length,.lst 0 [] true,.lst 0 [] true]) (by rfl) ?_
  conv=>whnf
  refine ldI rfl ?_
  conv=>whnf
  refine zqy (by omega) d ok hr pl pb hz c hl _ ⟨rfl,rfl,by rw [z2e];rfl,rfl,rfl⟩ ⟨⟨rfl,rfl,rfl,rfl,rfl,rfl,lenI Wr.av _,rfl⟩,rfl,rfl⟩ (fun L h1 g1 hL=>?_)
  conv=>whnf
  refine cutI (by decide) rfl (t:=⟨[(2,.ptr 0 0 0),(4,.ptr 1 0 0),(5,.ptr 3 0 0),(6,.map 4)],h1,[]⟩) ⟨hL,rfl,rfl⟩ ?_
  conv=>whnf
  refine ldI g1.d0 ?_
  conv=>whnf
  refine zqx d ok hr pl _ g1 ⟨⟨rfl,rfl,rfl,rfl,lenI i64 _,rfl⟩,rfl,rfl⟩ (fun L h2 B g2 l2 o2 hL=>?_)
  conv=>whnf
  refine cutI (by decide) rfl (t:=⟨[(4,.ptr 1 0 0),(5,.ptr 3 0 0)],h2,[]⟩) ⟨hL,rfl,rfl⟩ ?_
  conv=>whnf
  refine ldI g2.d3 ?_
  conv=>whnf
  refine stI (xs:=[.sl 1 2 0 0 d.secs.length,.lst 0 [] true,B]) g2.d1 (agg3 rfl rfl l2.cells.1) (by rfl) (by rfl) (by rfl) ?_
  have l1:LB tStr 1 h2 (.sl 1 2 0 0 d.secs.length) (((crL pl d d.ws.length).map AV.str).map fun x=>[x]):=by
   refine ⟨?_,.inr ⟨2,0,0,by simp [zfr],by rw [zcp];exact g2.d2,Nat.zero_le _⟩⟩
   intro r hr
   simp only [List.map_map,List.mem_map] at hr
   obtain ⟨s,_,rfl⟩:=hr
   exact ⟨rfl,rfl⟩
  have l0:LB tDW 2 h2 (.lst 0 [] true) (([]:List Wr).map Wr.cells):=⟨by simp,.inl ⟨0,rfl,rfl⟩⟩
  have kk:∀ {el sz:Nat}{L:AV}{rows:List (List AV)}(q:LB el sz h2 L rows) (o:∀ x,ownB L x → 2 ≤ x) (y:AB),LB el sz (h2.set 1 y) L rows:=fun q o y=>q.keep fun x hx ox=>by rw [List.getElem?_set_ne];have:=o x ox;omega
  obtain ⟨d',a1,a2,a3,a4,a5⟩:=z3a 61 (kk l1 (fun x o=>Nat.le_of_eq o) (.cells 0 (some zc2) [.sl 1 2 0 0 d.secs.length,.lst 0 [] true,B] 0)) (kk l0 (fun x o=>o.elim) _) (kk l2 (fun x o=>by have:=o2 x o;omega) _) (by
   have:(kpB pl d d.bad.length).length ≤ d.bad.length:=Nat.le_trans (List.length_filter_le _ _) (by simp)
   have:=ok.nb
   omega)
  exact ⟨_,zci rfl (zbl (N:=3) (t:=zc2) (by kernel_rfl) rfl (List.getElem?_set_self (zab g2.d1))),.ret d'.av,⟨_,a5,rfl⟩,d',a1,a2,a3,a4,rfl⟩
 obtain ⟨r',e,d',e1,e2,e3,o,rfl⟩:=hX
 exact ⟨d',e1,e2,e3,o,e⟩
end
abbrev zDk:List AV:=[.lst 0 [] true,.lst 0 [] true,.lst 0 [] true]
abbrev zDC:AB:=.cells 0 (some zc2) zDk 0
def newW (k:Nat) (s:Str) (j:Nat):List Wr:=(List.range j).map fun i=>⟨((k+i:Nat):Int),(s.take (64*(i+1))).drop (64*i)⟩
theorem zr8 (k:Nat) (s:Str) (j:Nat):(newW k s j).length=j:=by simp [newW]
theorem zjm (k:Nat) (s:Str) (j:Nat):newW k s (j+1)=newW k s j++[⟨((k+j:Nat):Int),(s.take (64*(j+1))).drop (64*j)⟩]:=by
 unfold newW
 rw [List.range_succ,List.map_append]
 rfl
section
variable {n m:Nat}{h hp:zaa}
theorem zye {P e:Nat}{a:AV}(hP:h[P]?=some (.cells 0 (some tErr) [a] 0)):∃ h',zb7 Tryz.prog (C m) (zcl Tryz.prog cfg0.inl (C m)) KK 86 [.ptr P 0 0] (.pan (zkz e) false) h=some (.pan (zkz e) true,h') ∧ h'[P]?=some (.cells 0 (some tErr) [i64 e] 0) ∧ Keep h h' [P]:=by
 refine zfo D86 rfl ?_
 have lP:=zab hP
 conv=>whnf
 refine stJ (xs:=[i64 e]) (zad _ _) ?_
 conv=>whnf
 refine ldI (zaf _ _ _) ?_
 conv=>whnf
 have e1:((h++[AB.cells 0 (some tDF) [i64 0] 0]).set h.length (AB.cells 0 (some tDF) (putAt [i64 0] 0 [i64 e]) 0))[P]?=some (.cells 0 (some tErr) [a] 0):=by
  rw [List.getElem?_set_ne (by omega),List.getElem?_append_left lP];exact hP
 refine stJ (xs:=[i64 e]) e1 ?_
 exact ⟨rfl,⟨[],rfl⟩,List.getElem?_set_self (zab e1),((Keep.app h _ _).set' (.inr (Nat.le_refl _))).set' (.inl (by simp))⟩
theorem z2x {P:Program}{L:LT}{h:zaa}{t u:Tmp}{ty tz:TypeId}{p q v w:AV}(hk:lk L t=some p) (hj:lk L u=some q) (hl:zbp P h ty p=some v) (hm:zbp P h tz q=some w):zbv P L h [.cell t ty,.cell u tz]=some [v,w]:=by simp only [zbv,hk,hj,hl,hm]
structure WH (d:Dk) (k:Nat) (s:Str) (j P:Nat) (S W B:AV) (h:zaa):Prop where
 e1:h[1]?=some zDC
 e2:h[2]?=some (errC 0)
 eP:h[P]?=some (.cells 0 (some zc2) [S,W,B] 0)
 fs:LB tStr 1 h S ((d.secs.map AV.str).map fun x=>[x])
 fw:LB tDW 2 h W ((d.ws++newW k s j).map Wr.cells)
 fb:LB 3 1 h B ((d.bad.map i64).map fun x=>[x])
 oS:∀ x,ownB S x → 3 ≤ x ∧ x≠P
 oW:∀ x,ownB W x → 3 ≤ x ∧ x≠P
 oB:∀ x,ownB B x → 3 ≤ x ∧ x≠P
 sw:∀ x,ownB S x → ¬ ownB W x
 wb:∀ x,ownB W x → ¬ ownB B x
theorem zs9 (d:Dk) (k:Nat) (s:Str) (n':Nat) (hs:s.length=64*n') (hn:n' ≤ 40000) (hk:k ≤ 32768) (hw:d.ws.length ≤ 40000) (P:Nat) (h3:3 ≤ P) (S B:AV) {Q:Ex → LS → Prop}{s0:LS}(h0:zaa) (W0:AV) (g0:WH d k s 0 P S W0 B h0)
  (hs0:LS.sub ⟨[(1,i64 k),(2,.str s),(6,.ptr 1 0 0),(7,.ptr 2 0 0),(9,.ptr P 0 0),(49,i64 n'),(50,i64 0)],h0,dfD 2⟩ s0)
  (hE:∀ L h W,WH d k s n' P S W B h → subL [(6,.ptr 1 0 0),(7,.ptr 2 0 0),(9,.ptr P 0 0)] L → Q (.exit 0) ⟨L,h,dfD 2⟩) :
  OkR Tryz.prog (C m) cfg0.inl KK 71 7 (.loop (c182.lp 0)) s0 Q:=by
 refine za1 (by decide) rfl (α:=Nat × AV × zaa) (fun x=>⟨[(1,i64 k),(2,.str s),(6,.ptr 1 0 0),(7,.ptr 2 0 0),(9,.ptr P 0 0),(49,i64 n'),(50,i64 x.1)],x.2.2,dfD 2⟩) (fun x=>x.1 ≤ n' ∧ WH d k s x.1 P S x.2.1 B x.2.2) (fun x=>n' - x.1) (0,W0,h0) hs0 ⟨Nat.zero_le _,g0⟩ (by simp only [KK];omega) ?_
 rintro ⟨j,W,hp⟩ ⟨g1,g⟩
 simp only at g1 g
 conv=>whnf
 refine brd (fun a=>?_) (fun a=>?_)
 ·have hj:j<n':=by omega
  obtain ⟨v,h',ea,l1,n1,k1,o1⟩:=g.fw.app (x:=.lst 2 [(⟨((k+j:Nat):Int),(s.take (64*(j+1))).drop (64*j)⟩ : Wr).av] true) rfl (zo1 hp rfl rfl) ⟨rfl,rfl⟩ (by simp [zr8];omega)
  have lP:=zab g.eP
  have l2:=zab g.e2
  have eP':h'[P]?=some (.cells 0 (some zc2) [S,W,B] 0):=by rw [k1 P lP fun o=>(g.oW P o).2 rfl];exact g.eP
  conv=>whnf
  refine ldI g.eP ?_
  conv=>whnf
  refine zI (z:=((k+j:Nat):Int)) (by rw [zae (by omega) (by omega)];rfl) ?_
  conv=>whnf
  refine zI (z:=((64*j:Nat):Int)) (by rw [zae (by omega) (by omega)];omega) ?_
  conv=>whnf
  refine zJ j ?_
  conv=>whnf
  refine zI (z:=((64*(j+1):Nat):Int)) (by rw [zae (by omega) (by omega)];omega) ?_
  conv=>whnf
  refine zht (by omega) (by omega) ?_
  conv=>whnf
  refine ⟨rfl,?_⟩
  conv=>whnf
  refine apI5 ea ?_
  conv=>whnf
  refine ⟨?_,?_⟩
  ·repeat' (conv=>whnf);first | done | exact ldI eP' rfl | exact zht (by omega) (by omega) rfl | refine ⟨?_,?_⟩ | rfl
  conv=>whnf
  refine stI (xs:=[v]) eP' l1.cells.2 (by rfl) (by rfl) (by rfl) ?_
  conv=>whnf
  refine zJ j ?_
  have oV:∀ x,ownB v x → 3 ≤ x ∧ x≠P:=fun x o=>(o1 x o).elim (g.oW x) fun q=>⟨by omega,by omega⟩
  have kp:∀ {el sz:Nat}{L:AV}{rows:List (List AV)}(q:LB el sz hp L rows) (h1:∀ x,ownB L x → ¬ ownB W x) (h2:∀ x,ownB L x → x≠P) (y:AB),LB el sz (h'.set P y) L rows:=fun q h1 h2 y=>q.keep fun x hx o=>by
   rw [List.getElem?_set_ne (fun e=>h2 x o e.symm)];exact k1 x hx (h1 x o)
  refine nxI (j+1,v,_) ⟨hj,?_,?_,?_,?_,?_,?_,g.oS,oV,g.oB,?_,?_⟩ (by simp only;omega) ⟨⟨rfl,rfl,rfl,rfl,rfl,rfl,rfl⟩,rfl,rfl⟩
  ·rw [List.getElem?_set_ne (by omega),k1 1 (by omega) fun o=>by have:=(g.oW 1 o).1;omega];exact g.e1
  ·rw [List.getElem?_set_ne (by omega),k1 2 (by omega) fun o=>by have:=(g.oW 2 o).1;omega];exact g.e2
  ·rw [List.getElem?_set_self (zab eP')];rfl
  ·exact kp g.fs g.sw (fun x o=>(g.oS x o).2) _
  ·rw [zjm,← List.append_assoc,List.map_append]
   exact l1.keep fun x hx o=>by rw [List.getElem?_set_ne];exact fun e=>(oV x o).2 e.symm
  ·exact kp g.fb (fun x o o'=>g.wb x o' o) (fun x o=>(g.oB x o).2) _
  ·exact fun x o o'=>(o1 x o').elim (g.sw x o) fun q=>by have:=g.fs.lt o;omega
  ·exact fun x o o'=>(o1 x o).elim (fun q=>g.wb x q o') fun q=>by have:=g.fb.lt o';omega
 ·have hj:j=n':=by omega
  subst hj
  conv=>whnf
  exact hE _ _ W g ⟨rfl,rfl,rfl⟩
theorem z2z (k:Nat):((k:Int)).tdiv 64=((k / 64:Nat):Int):=by
 rw [Int.tdiv_eq_ediv_of_nonneg (by omega)];omega
theorem z2y (k:Nat):((k:Int)).tmod 64=((k % 64:Nat):Int):=by
 rw [Int.tmod_eq_emod_of_nonneg (by omega)];omega
theorem zyd (hn:4 ≤ n) (d:Dk) (ok:d.Ok) (hr:zan d=true) (k:Nat) (s:Str) (n':Nat) (hs:s.length=64*n') (h1:1 ≤ n') (hk:k+n' ≤ d.secs.length) (hl:d.ws.length+n' ≤ 40000) :
  ∃ d':Dk,d'.secs=d.secs ∧ d'.ws=d.ws++newW k s n' ∧ d'.bad=d.bad ∧ d'.Ok ∧ ∀ h,C n 182 [d.av,i64 k,.str s] h=some (.ret (.tup [d'.av,i64 0]),h):=by
 obtain ⟨m,rfl⟩:=pre1 n
 obtain ⟨⟨z1,z2,z3⟩,-,-,z4⟩:=rightD_iff.1 hr
 have e1:(d.secs.map AV.str).length=d.secs.length:=List.length_map ..
 have e2:(d.ws.map Wr.av).length=d.ws.length:=List.length_map ..
 have cN:∀ (b:Bool) (e:Nat) h,b=true → C m 130 [.bool b,i64 e] h=some (.ret (.tup []),h):=fun b e h q=>by subst q;exact zjn (by omega) e
 have cH:=fun h=>znb (n:=m) (h:=h) (by omega) d k
 rw [show (decide ((0:Int) ≤ (k:Int))&&decide ((k:Int)<d.secs.length))=true by simp;omega] at cH
 have hX:∃ r',(∀ h,C (m+1) 182 [d.av,i64 k,.str s] h=some (r',h)) ∧ ∃ d':Dk,d'.secs=d.secs ∧ d'.ws=d.ws++newW k s n' ∧ d'.bad=d.bad ∧ d'.Ok ∧ r'=.ret (.tup [d'.av,i64 0]):=by
  refine zfn F182 rfl rfl rfl (by simp [zam,zbk,AV.pureB]) ?_
  conv=>whnf
  refine ⟨rfl,.fn 86 [.ptr 2 0 0],by kernel_rfl,?_⟩
  conv=>whnf
  refine ldI rfl ?_
  conv=>whnf
  refine ⟨rfl,?_⟩
  conv=>whnf
  refine clI (zjx (by omega) d ok hr _) ?_
  conv=>whnf
  refine ⟨by decide,(n':Int),by rw [hs,z2z,zae (by omega) (by omega)];omega,?_⟩
  conv=>whnf
  refine brd (fun _=>?_) (fun a=>absurd h1 (by omega))
  conv=>whnf
  refine remI (z:=0) (by decide) (by rw [hs,z2y];omega) ?_
  conv=>whnf
  refine ldI rfl ?_
  conv=>whnf
  refine clI (cH _) ?_
  conv=>whnf
  refine ldI rfl ?_
  conv=>whnf
  refine zI (z:=((d.secs.length-k:Nat):Int)) (by rw [e1,zae (by omega) (by omega)];omega) ?_
  conv=>whnf
  refine clI (cN _ 1 _ (by rw [decide_eq_true_iff];omega)) ?_
  conv=>whnf
  refine ldI rfl ?_
  conv=>whnf
  refine zI (z:=((d.ws.length+n':Nat):Int)) (by rw [e2,zae (by omega) (by omega)];omega) ?_
  conv=>whnf
  refine clI (cN _ 3 _ (by rw [decide_eq_true_iff];omega)) ?_
  conv=>whnf
  refine ldI rfl ?_
  conv=>whnf
  obtain ⟨r,hc,eC,S,W,B,rfl,D,kc⟩:=zyq (n:=m) (hp:=[dkC d,zDC,errC 0]) (by omega) d ok hr
  refine clI eC ?_
  conv=>whnf
  refine stI (xs:=[S,W,B]) (zad _ _) (agg3 D.s.cells.1 D.w.cells.1 D.b.cells.1) (by rfl) (by rfl) (by rfl) ?_
  conv=>whnf
  have n3:3 ≤ hc.length:=kc.1
  have ka:∀ (x:Nat) (y z:AB),x<hc.length → ((hc++[y]).set hc.length z)[x]?=hc[x]?:=fun x y z hx=>by rw [List.getElem?_set_ne (by omega),List.getElem?_append_left hx]
  refine zs9 d k s n' hs (by omega) (by omega) (by omega) hc.length n3 S B _ W ⟨?_,?_,zaf _ _ _,?_,?_,?_,fun x o=>⟨D.os x o,Nat.ne_of_lt (D.s.lt o)⟩,fun x o=>⟨D.ow x o,Nat.ne_of_lt (D.w.lt o)⟩,fun x o=>⟨D.ob x o,Nat.ne_of_lt (D.b.lt o)⟩,D.sw,D.wb⟩ ⟨⟨rfl,rfl,rfl,rfl,rfl,rfl,rfl⟩,rfl,rfl⟩ (fun L h2 W2 g hL=>?_)
  ·rw [ka _ _ _ (by omega)];exact kc.get (x:=1) rfl (by simp)
  ·rw [ka _ _ _ (by omega)];exact kc.get (x:=2) rfl (by simp)
  ·exact D.s.keep fun x hx o=>ka _ _ _ hx
  ·rw [show newW k s 0=[] from rfl,List.append_nil];exact D.w.keep fun x hx o=>ka _ _ _ hx
  ·exact D.b.keep fun x hx o=>ka _ _ _ hx
  conv=>whnf
  refine cutI (by decide) rfl (t:=⟨[(6,.ptr 1 0 0),(7,.ptr 2 0 0),(9,.ptr hc.length 0 0)],h2,dfD 2⟩) ⟨hL,rfl,rfl⟩ ?_
  conv=>whnf
  refine ldI g.eP ?_
  conv=>whnf
  refine stI (xs:=[S,W2,B]) g.e1 (agg3 g.fs.cells.1 g.fw.cells.1 g.fb.cells.1) (by rfl) (by rfl) (by rfl) ?_
  conv=>whnf
  have q2:(h2.set 1 (.cells 0 (some zc2) [S,W2,B] 0))[2]?=some (errC 0):=by rw [List.getElem?_set_ne (by decide)];exact g.e2
  refine stJ (xs:=[i64 0]) q2 ?_
  have kk:∀ {el sz:Nat}{L:AV}{rows:List (List AV)}(q:LB el sz h2 L rows) (o:∀ x,ownB L x → 3 ≤ x ∧ x≠hc.length),LB el sz ((h2.set 1 (.cells 0 (some zc2) [S,W2,B] 0)).set 2 (errC 0)) L rows:=fun q o=>q.keep fun x hx ox=>by
   have:=o x ox
   rw [List.getElem?_set_ne (by omega),List.getElem?_set_ne (by omega)]
  obtain ⟨d',a1,a2,a3,a4,a5⟩:=z3a 60 (kk g.fs g.oS) (kk g.fw g.oW) (kk g.fb g.oB) ok.nb
  have f2:Abs.frz ((h2.set 1 (.cells 0 (some zc2) [S,W2,B] 0)).set 2 (errC 0)) 64 (tupA [.agg [S,W2,B],i64 0])=some (.tup [d'.av,i64 0]):=by
   show (allM (Abs.frz _ 63) [.agg [S,W2,B],i64 0]).map AV.tup=_
   have e9:Abs.frz ((h2.set 1 (.cells 0 (some zc2) [S,W2,B] 0)).set 2 (errC 0)) 63 (i64 0)=some (i64 0):=rfl
   simp only [allM,a5,e9]
   rfl
  obtain ⟨h',e8,rfl⟩:=zsq (m:=m) (h:=(h2.set 1 (.cells 0 (some zc2) [S,W2,B] 0)).set 2 (errC 0)) (P:=2)
  refine ⟨zhi,_,_,e8,[.agg [S,W2,B],i64 0],?_,.ret (.tup [d'.av,i64 0]),⟨_,f2,rfl⟩,d',a1,a2,a3,a4,rfl⟩
  have l1:zbp Tryz.prog ((h2.set 1 (.cells 0 (some zc2) [S,W2,B] 0)).set 2 (errC 0)) zc2 (.ptr 1 0 0)=some (.agg [S,W2,B]):=zbl (N:=3) (by kernel_rfl) rfl (by rw [List.getElem?_set_ne (by decide)];exact List.getElem?_set_self (zab g.e1))
  have l2:zbp Tryz.prog ((h2.set 1 (.cells 0 (some zc2) [S,W2,B] 0)).set 2 (errC 0)) tErr (.ptr 2 0 0)=some (i64 0):=zgg (List.getElem?_set_self (zab q2))
  exact z2x rfl rfl l1 l2
 obtain ⟨r',e,d',e1,e2,e3,o,rfl⟩:=hX
 exact ⟨d',e1,e2,e3,o,e⟩
theorem zuo (hn:4 ≤ n) (d:Dk) (ok:d.Ok) (hr:zan d=true) (k:Nat) (s:Str) (n':Nat) (hs:s.length=64*n') (h1:1 ≤ n') (hk:k+n' ≤ d.secs.length) (hl:40000<d.ws.length+n'):C n 182 [d.av,i64 k,.str s] h=some (.ret (.tup [.agg zDk,i64 3]),h):=by
 obtain ⟨m,rfl⟩:=pre1 n
 obtain ⟨⟨z1,z2,z3⟩,-,-,z4⟩:=rightD_iff.1 hr
 have e1:(d.secs.map AV.str).length=d.secs.length:=List.length_map ..
 have e2:(d.ws.map Wr.av).length=d.ws.length:=List.length_map ..
 have cN:∀ (b:Bool) (e:Nat) h,b=true → C m 130 [.bool b,i64 e] h=some (.ret (.tup []),h):=fun b e h q=>by subst q;exact zjn (by omega) e
 have cP:∀ (b:Bool) (e:Nat) h,b=false → C m 130 [.bool b,i64 e] h=some (.pan (zkz e),h):=fun b e h q=>by subst q;exact zw9 (by omega) e
 have cH:=fun h=>znb (n:=m) (h:=h) (by omega) d k
 rw [show (decide ((0:Int) ≤ (k:Int))&&decide ((k:Int)<d.secs.length))=true by simp;omega] at cH
 refine zc7 F182 rfl rfl rfl (by simp [zam,zbk,AV.pureB]) ?_
 conv=>whnf
 refine ⟨rfl,.fn 86 [.ptr 2 0 0],by kernel_rfl,?_⟩
 conv=>whnf
 refine ldI rfl ?_
 conv=>whnf
 refine ⟨rfl,?_⟩
 conv=>whnf
 refine clI (zjx (by omega) d ok hr _) ?_
 conv=>whnf
 refine ⟨by decide,(n':Int),by rw [hs,z2z,zae (by omega) (by omega)];omega,?_⟩
 conv=>whnf
 refine brd (fun _=>?_) (fun a=>absurd h1 (by omega))
 conv=>whnf
 refine remI (z:=0) (by decide) (by rw [hs,z2y];omega) ?_
 conv=>whnf
 refine ldI rfl ?_
 conv=>whnf
 refine clI (cH _) ?_
 conv=>whnf
 refine ldI rfl ?_
 conv=>whnf
 refine zI (z:=((d.secs.length-k:Nat):Int)) (by rw [e1,zae (by omega) (by omega)];omega) ?_
 conv=>whnf
 refine clI (cN _ 1 _ (by rw [decide_eq_true_iff];omega)) ?_
 conv=>whnf
 refine ldI rfl ?_
 conv=>whnf
 refine zI (z:=((d.ws.length+n':Nat):Int)) (by rw [e2,zae (by omega) (by omega)];omega) ?_
 conv=>whnf
 refine clP (cP _ 3 _ (by rw [decide_eq_false_iff_not];omega)) ?_
 conv=>whnf
 obtain ⟨h',e8,q8,k8⟩:=zye (m:=m) (h:=[dkC d,zDC,errC 0]) (P:=2) (e:=3) rfl
 refine ⟨zhi,_,_,e8,[.agg zDk,i64 3],z2x rfl rfl (zbl (N:=3) (by kernel_rfl) rfl (k8.get (x:=1) rfl (by simp))) (zgg q8),_,rfl,rfl⟩
end
abbrev tTDi:Nat:=46
abbrev zTDi:List AV:=[.lst 0 [] true,.lst 0 [] true,.lst 0 [] true]
abbrev zCDi:AB:=.cells 0 (some tTDi) zTDi 0
def cRecDi:RC:=match c155 with
 | .seq _ r=>r
 | _=>.skip
theorem DTDi:DefI 155 2 15 5 [] (some 6) [] cRecDi :=
 ⟨⟨Tryz.f155,Tryz.func155,by kernel_rfl,by kernel_rfl,by kernel_rfl⟩,by kernel_rfl,by decide,by kernel_rfl,by kernel_rfl,by kernel_rfl⟩
theorem zx7:fnOk Tryz.prog 155=true:=DTDi.fine
theorem ldTDi {h:zaa}{b:Nat}{cs:List AV}(hl:cs.length=3) (hb:h[b]?=some (.cells 0 (some tTDi) cs 0)):∃ v,zbp Tryz.prog h tTDi (.ptr b 0 0)=some v ∧ v=.agg cs:=⟨_,zbl (N:=3) (by kernel_rfl) hl hb,rfl⟩
section
variable {n m:Nat}{h hp h2:zaa}
theorem retTDi {P I:Nat}:∃ h',zb7 Tryz.prog (C m) (zcl Tryz.prog cfg0.inl (C m)) KK 155 [.ptr P 0 0,.ptr I 0 0] .ret h=some (.ret,h') ∧ h'=h:=by
 refine zfo DTDi rfl ?_
 conv=>whnf
 exact ⟨rfl,⟨[],rfl⟩,rfl⟩
theorem panTDi {P I:Nat}{e:Int}{a:AV}{cs:List AV}(hn:P≠I) (hP:h[P]?=some (.cells 0 (some tTDi) cs 0)) (hc:cs.length=3) (hI:h[I]?=some (.cells 0 (some tErr) [a] 0)) :
  ∃ h',zb7 Tryz.prog (C m) (zcl Tryz.prog cfg0.inl (C m)) KK 155 [.ptr P 0 0,.ptr I 0 0] (.pan (zbz e) false) h=some (.pan (zbz e) true,h') ∧ h'[P]?=some zCDi ∧ h'[I]?=some (.cells 0 (some tErr) [i64 e] 0) ∧ Keep h h' [P,I]:=by
 refine zfo DTDi rfl ?_
 have lP:=zab hP
 have lI:=zab hI
 have hput:putAt cs 0 zTDi=zTDi:=by
  unfold putAt
  rw [List.take_zero,List.nil_append,List.drop_of_length_le (by rw [hc];decide),List.append_nil]
 conv=>whnf
 refine stJ (xs:=[i64 e]) (zad _ _) ?_
 conv=>whnf
 have k00:Keep h ((h++[AB.cells 0 (some tFF) [i64 0] 0]).set h.length (AB.cells 0 (some tFF) (putAt [i64 0] 0 [i64 e]) 0)) [P,I]:=(Keep.app h _ _).set' (.inr (Nat.le_refl _))
 have k0:=k00.trans (Keep.app _ zCDi []) (by simp)
 have eX:(((h++[AB.cells 0 (some tFF) [i64 0] 0]).set h.length (AB.cells 0 (some tFF) (putAt [i64 0] 0 [i64 e]) 0))++[zCDi])[h.length]?=some (.cells 0 (some tFF) [i64 e] 0):=by
  rw [List.getElem?_append_left (by simp),zaf];rfl
 have eZ:=zad ((h++[AB.cells 0 (some tFF) [i64 0] 0]).set h.length (AB.cells 0 (some tFF) (putAt [i64 0] 0 [i64 e]) 0)) zCDi
 have eP:(((h++[AB.cells 0 (some tFF) [i64 0] 0]).set h.length (AB.cells 0 (some tFF) (putAt [i64 0] 0 [i64 e]) 0))++[zCDi])[P]?=some (.cells 0 (some tTDi) cs 0):=by
  rw [List.getElem?_append_left (by simp;omega),List.getElem?_set_ne (by omega),List.getElem?_append_left lP];exact hP
 have eI:(((h++[AB.cells 0 (some tFF) [i64 0] 0]).set h.length (AB.cells 0 (some tFF) (putAt [i64 0] 0 [i64 e]) 0))++[zCDi])[I]?=some (.cells 0 (some tErr) [a] 0):=by
  rw [List.getElem?_append_left (by simp;omega),List.getElem?_set_ne (by omega),List.getElem?_append_left lI];exact hI
 refine ldI eZ ?_
 conv=>whnf
 refine ldI eX ?_
 conv=>whnf
 refine stI (xs:=zTDi) eP (by rfl) (by rfl) (by rw [hc];decide) (by rfl) ?_
 refine ⟨?_,?_⟩
 ·refine ⟨?_,?_⟩
  ·conv=>whnf
   refine ldI (by rw [List.getElem?_set_ne (by omega)];exact eX) ?_
   rfl
  ·conv=>whnf
   refine ldI (by rw [List.getElem?_set_ne (by simp;omega)];exact eZ) ?_
   rfl
 conv=>whnf
 refine stJ (xs:=[i64 e]) (by rw [List.getElem?_set_ne hn];exact eI) ?_
 refine ⟨rfl,⟨[],rfl⟩,?_,?_,?_⟩
 ·rw [List.getElem?_set_ne (Ne.symm hn),List.getElem?_set_self (by simp;omega),hput]
 ·rw [List.getElem?_set_self (by simp;omega)]
  rfl
 ·exact ((k0.set' (.inl (by simp))).set' (.inl (by simp)))
theorem z1k {R:CRes → zaa → Prop}{L:LT}{P I:Nat}{cs:List AV}(a2:lk L 2=some (.ptr P 0 0)) (a3:lk L 3=some (.ptr I 0 0)) (g1:h[P]?=some (.cells 0 (some tTDi) cs 0)) (hl:cs.length=3) (g2:h[I]?=some (errC 0)) (hR:R (.ret (.tup [.agg cs,i64 0])) h) :
  EndQ Tryz.prog (C m) cfg0.inl [.cell 2 tTDi,.cell 3 tErr] R .ret ⟨L,h,[.fn 155 [.ptr P 0 0,.ptr I 0 0]]⟩:=by
 obtain ⟨h',e1,rfl⟩:=retTDi (m:=m) (h:=h) (P:=P) (I:=I)
 obtain ⟨w,ew,rfl⟩:=ldTDi hl g1
 refine ⟨zx7,_,h',e1,[.agg cs,i64 0],?_,hR⟩
 simp only [zbv,a2,a3,ew,zgg g2]<;>rfl
theorem z1n {R:CRes → zaa → Prop}{L:LT}{P I:Nat}{e:Int}{cs:List AV}(hn:P≠I) (a2:lk L 2=some (.ptr P 0 0)) (a3:lk L 3=some (.ptr I 0 0)) (g1:h[P]?=some (.cells 0 (some tTDi) cs 0)) (hl:cs.length=3) (g2:h[I]?=some (errC 0)) (hR:∀ h',Keep h h' [P,I] → R (.ret (.tup [.agg zTDi,i64 e])) h') :
  EndQ Tryz.prog (C m) cfg0.inl [.cell 2 tTDi,.cell 3 tErr] R (.pan (zbz e)) ⟨L,h,[.fn 155 [.ptr P 0 0,.ptr I 0 0]]⟩:=by
 obtain ⟨h',e1,q1,q2,k1⟩:=panTDi (m:=m) (h:=h) (P:=P) (I:=I) (e:=e) hn g1 hl g2
 obtain ⟨w,ew,hw⟩:=ldTDi rfl q1
 refine ⟨zx7,_,h',e1,[.agg zTDi,i64 e],?_,hR h' k1⟩
 simp only [zbv,a2,a3,ew,hw,zgg q2]<;>rfl
theorem zz1 {g:FuncId}{caps:List AV}{v:AV}{cs:List AV}(hf:fnOk Tryz.prog g=true) (hg:C m g caps (hp++[zCDi]++[errC 0])=some (.ret v,h2)) (hv:v.cells?=some cs) (hl:cs.length=3) (hx:h2[hp.length]?=some zCDi) (he:h2[(hp++[zCDi]).length]?=some (errC 0)) :
  ∃ r h3,C (m+1) 78 [.fn (.func g) [] caps] hp=some (r,h3) ∧ r=.ret (.tup [.agg cs,i64 0]) ∧ Keep h2 h3 [hp.length,(hp++[zCDi]).length]:=by
 have l2:=zab he
 have l1:=zab hx
 have el:(hp++[zCDi]).length≠hp.length:=by simp
 have hput:putAt zTDi 0 cs=cs:=by
  unfold putAt
  rw [List.take_zero,List.nil_append,List.drop_of_length_le (by rw [hl];decide),List.append_nil]
 refine za0 F78 rfl rfl ?_
 conv=>whnf
 refine ⟨rfl,.fn 155 [.ptr hp.length 0 0,.ptr (hp++[zCDi]).length 0 0],by kernel_rfl,?_⟩
 conv=>whnf
 refine cvI hf hg ?_
 conv=>whnf
 refine stI (xs:=cs) hx hv hl (by rw [hl];rfl) (by rfl) ?_
 conv=>whnf
 refine stJ (xs:=[i64 0]) ((List.getElem?_set_ne el.symm).trans he) ?_
 refine z1k (cs:=cs) (P:=hp.length) (I:=(hp++[zCDi]).length) rfl rfl ?_ hl ?_ ⟨rfl,?_⟩
 ·refine (List.getElem?_set_ne el).trans ((List.getElem?_set_self l1).trans ?_)
  rw [hput]
 ·exact List.getElem?_set_self (by rw [List.length_set];exact l2)
 ·exact (Keep.set (by simp)).set' (.inl (by simp))
theorem zz4 {g:FuncId}{caps:List AV}{e:Int}{cs:List AV}(hf:fnOk Tryz.prog g=true) (hg:C m g caps (hp++[zCDi]++[errC 0])=some (.pan (zbz e),h2)) (hl:cs.length=3) (hx:h2[hp.length]?=some (.cells 0 (some tTDi) cs 0)) (he:h2[(hp++[zCDi]).length]?=some (errC 0)) :
  ∃ r h3,C (m+1) 78 [.fn (.func g) [] caps] hp=some (r,h3) ∧ r=.ret (.tup [.agg zTDi,i64 e]) ∧ Keep h2 h3 [hp.length,(hp++[zCDi]).length]:=by
 have el:(hp++[zCDi]).length≠hp.length:=by simp
 refine za0 F78 rfl rfl ?_
 conv=>whnf
 refine ⟨rfl,.fn 155 [.ptr hp.length 0 0,.ptr (hp++[zCDi]).length 0 0],by kernel_rfl,?_⟩
 conv=>whnf
 refine cvP hf hg ?_
 exact z1n (P:=hp.length) (I:=(hp++[zCDi]).length) el.symm rfl rfl hx hl he fun h' k=>⟨rfl,k⟩
end
def Dk.zero:Dk:=⟨⟨0,true⟩,[],⟨0,true⟩,[],⟨0,true⟩,[]⟩
theorem Dk.zero_ok:Dk.zero.Ok:=⟨fun h=>(h rfl).elim,fun h=>(h rfl).elim,fun h=>(h rfl).elim,by decide⟩
theorem zqu (n:Nat) (h:zaa) (d:Dk):Abs.frz h (n+4) d.av=some d.av:=by
 have a1:Abs.frz h (n+3) (zp5 d)=some (zp5 d):=by
  show (allM (Abs.frz h (n+2)) (d.secs.map AV.str)).map (fun ys=>AV.lst d.ssh.sz ys d.ssh.c)=_
  rw [zda fun x hx=>by obtain ⟨y,_,rfl⟩:=List.mem_map.1 hx;rfl];rfl
 have a2:Abs.frz h (n+3) (wsA d)=some (wsA d):=by
  show (allM (Abs.frz h (n+2)) (d.ws.map Wr.av)).map (fun ys=>AV.lst d.wsh.sz ys d.wsh.c)=_
  rw [zda fun x hx=>by obtain ⟨y,_,rfl⟩:=List.mem_map.1 hx;rfl];rfl
 have a3:Abs.frz h (n+3) (badA d)=some (badA d):=by
  show (allM (Abs.frz h (n+2)) (d.bad.map i64)).map (fun ys=>AV.lst d.bsh.sz ys d.bsh.c)=_
  rw [zda fun x hx=>by obtain ⟨y,_,rfl⟩:=List.mem_map.1 hx;rfl];rfl
 show (allM (Abs.frz h (n+3)) [zp5 d,wsA d,badA d]).map AV.agg=_
 simp only [allM,a1,a2,a3]
 rfl
theorem z5s (h:zaa) (d:Dk) (e:Int):Abs.frz h 64 (tupA [d.av,i64 e])=some (.tup [d.av,i64 e]):=by
 show (allM (Abs.frz h 63) [d.av,i64 e]).map AV.tup=_
 have a1:=zqu 59 h d
 have a2:Abs.frz h 63 (i64 e)=some (i64 e):=rfl
 simp only [allM,a1,a2]
 rfl
theorem z19 {h:zaa}{b:Nat}{cs:List AV}(hl:cs.length=3) (hb:h[b]?=some (.cells 0 (some zc2) cs 0)):zbp Tryz.prog h zc2 (.ptr b 0 0)=some (.agg cs):=zbl (N:=3) (by kernel_rfl) hl hb
section
variable {n m:Nat}{h hp:zaa}{d:Dk}
theorem z5f (hn:2 ≤ n) (d:Dk):C n 181 [d.av,i64 0] h=some (.ret d.av,h):=by
 obtain ⟨m,rfl⟩:=pre1 n
 refine zak F181 rfl rfl rfl (by simp [zam,zbk,AV.pureB]) ?_
 conv=>whnf
 refine clI (zm9 (by omega)) ?_
 conv=>whnf
 refine ldI rfl ?_
 conv=>whnf
 refine stJ (xs:=d.cells) (by rfl) ?_
 exact ⟨rfl,_,zci rfl (z19 rfl rfl),zqu 60 _ d⟩
theorem z5g (hn:2 ≤ n) (d:Dk) (e:Int) (he:e≠0):C n 181 [d.av,i64 e] h=some (.pan (zbz e),h):=by
 obtain ⟨m,rfl⟩:=pre1 n
 refine zc7 F181 rfl rfl rfl (by simp [zam,zbk,AV.pureB]) ?_
 conv=>whnf
 refine clP (zj6 (by omega) e he) ?_
 exact ⟨zbz e,rfl,rfl⟩
theorem z5b (hn:2 ≤ n) (s:Str):C n 118 [.str s,i64 0] h=some (.ret (.str s),h):=by
 obtain ⟨m,rfl⟩:=pre1 n
 refine zak F118 rfl rfl rfl rfl ?_
 conv=>whnf
 refine clI (zm9 (by omega)) ?_
 conv=>whnf
 exact ⟨rfl,_,rfl,rfl⟩
theorem z5c (hn:2 ≤ n) (s:Str) (e:Int) (he:e≠0):C n 118 [.str s,i64 e] h=some (.pan (zbz e),h):=by
 obtain ⟨m,rfl⟩:=pre1 n
 refine zc7 F118 rfl rfl rfl rfl ?_
 conv=>whnf
 refine clP (zj6 (by omega) e he) ?_
 exact ⟨zbz e,rfl,rfl⟩
theorem zvh (hn:3 ≤ n) {w:Nat}(hw:hp[w]?=some (wriC d)) {k:Int}{s:Str}{d':Dk}(cW:∀ h,C (n-1) 182 [d.av,i64 k,.str s] h=some (.ret (.tup [d'.av,i64 0]),h)):C n 120 [.ptr w 0 0,i64 k,.str s] hp=some (.ret (.tup []),hp.set w (wriC d')):=by
 obtain ⟨m,rfl⟩:=pre1 n
 rw [Nat.add_sub_cancel] at cW
 refine zat F120 rfl rfl ?_
 conv=>whnf
 refine ldI hw ?_
 conv=>whnf
 refine clI (cW _) ?_
 conv=>whnf
 refine clI (z5f (by omega) d') ?_
 conv=>whnf
 refine stJ (xs:=d'.cells) hw ?_
 exact ⟨rfl,[],rfl,rfl,rfl⟩
theorem zvi (hn:3 ≤ n) {w:Nat}(hw:hp[w]?=some (wriC d)) {k:Int}{s:Str}{e:Int}(he:e≠0) (cW:∀ h,C (n-1) 182 [d.av,i64 k,.str s] h=some (.ret (.tup [Dk.zero.av,i64 e]),h)):C n 120 [.ptr w 0 0,i64 k,.str s] hp=some (.pan (zbz e),hp):=by
 obtain ⟨m,rfl⟩:=pre1 n
 rw [Nat.add_sub_cancel] at cW
 have hX:∃ r h',C (m+1) 120 [.ptr w 0 0,i64 k,.str s] hp=some (r,h') ∧ r=.pan (zbz e) ∧ h'=hp:=by
  refine za0 F120 rfl rfl ?_
  conv=>whnf
  refine ldI hw ?_
  conv=>whnf
  refine clI (cW _) ?_
  conv=>whnf
  refine clP (z5g (by omega) _ e he) ?_
  exact ⟨rfl,rfl⟩
 obtain ⟨r,h',e1,rfl,rfl⟩:=hX
 exact e1
end
abbrev pgC (p:Page):AB:=.cells 0 (some 79) p.cells 0
def wpE (d:Dk) (p:Page):Int:=if zan d=true then (if p.check=true then (if p.no<zaq d then (if d.ws.length+8 ≤ 40000 then 0 else 3) else 1) else 2) else 2
structure DWrote (d:Dk) (p:Page) (d':Dk):Prop where
 ok:d'.Ok
 secs:d'.secs=d.secs
 ws:d'.ws=d.ws++newW (p.no.toNat*8) p.enc 8
 bad:d'.bad=d.bad
theorem res_ct {P:Program}{L:LT}{h:zaa}{t u:Tmp}{ty:TypeId}{p v w:AV}(hk:lk L t=some p) (hj:lk L u=some w) (hl:zbp P h ty p=some v):zbv P L h [.cell t ty,.tmp u]=some [v,w]:=by simp only [zbv,hk,hj,hl]
section
variable {n m:Nat}{h hp:zaa}{d:Dk}{p:Page}
theorem zzs (hn:4 ≤ n) (ok:d.Ok) (hr:zan d=false) {D N:Nat}(hD:hp[D]?=some (dkC d)) :
  ∃ r h',C n 117 [.ptr D 0 0,.ptr N 0 0] hp=some (r,h') ∧ r=.pan (zbz 2) ∧ Keep hp h' []:=by
 obtain ⟨m,rfl⟩:=pre1 n
 refine za0 F117 rfl rfl ?_
 conv=>whnf
 refine ldI (za8 hD) ?_
 conv=>whnf
 refine clP (of_no (by omega) d ok hr) ?_
 exact ⟨rfl,(Keep.app _ _ []).trans (Keep.app _ _ []) (by simp)⟩
theorem zub (hp:zaa) (x y z:AB):Keep hp (hp++[x]++[y]++[z]) []:=((Keep.app _ _ []).trans (Keep.app _ _ []) (by simp)).trans (Keep.app _ _ []) (by simp)
theorem wri3 (hp:zaa) (d:Dk) (x:AB):(hp++[x]++[dkC d]++[wriC d])[(hp++[x]).length+1]?=some (wriC d):=by
 rw [show (hp++[x]).length+1=(hp++[x]++[dkC d]).length by simp];exact zad _ _
theorem fst3 (hp:zaa) (x y z:AB):(hp++[x]++[y]++[z])[hp.length]?=some x:=by
 rw [List.getElem?_append_left (by simp),List.getElem?_append_left (by simp)];exact zad _ _
theorem z3r (hn:11 ≤ n) (ok:d.Ok) (pk:p.Ok) (hr:zan d=true) (hc:p.check=false) {D N:Nat}(hD:hp[D]?=some (dkC d)) (hN:hp[N]?=some (pgC p)) :
  ∃ r h',C n 117 [.ptr D 0 0,.ptr N 0 0] hp=some (r,h') ∧ r=.pan (zbz 2) ∧ Keep hp h' []:=by
 obtain ⟨m,rfl⟩:=pre1 n
 have cE:=fun h=>zj8 (n:=m) (h:=h) (by omega) p pk
 rw [hc] at cE
 have hN1:∀ x y z,(hp++[x]++[y]++[z])[N]?=some (pgC p):=fun x y z=>(zub hp x y z).get hN (by simp)
 refine za0 F117 rfl rfl ?_
 conv=>whnf
 refine ldI (za8 hD) ?_
 conv=>whnf
 refine clI (zw2 (by omega) d ok hr) ?_
 conv=>whnf
 refine ldI (hN1 _ _ _) ?_
 conv=>whnf
 refine clI (cE _) ?_
 conv=>whnf
 refine clP (z5c (by omega) _ 2 (by decide)) ?_
 exact ⟨rfl,zub _ _ _ _⟩
theorem zzr (hn:11 ≤ n) (ok:d.Ok) (pk:p.Ok) (hr:zan d=true) (hc:p.check=true) {D N:Nat}(hD:hp[D]?=some (dkC d)) (hN:hp[N]?=some (pgC p)) :
  ∃ r h',C n 117 [.ptr D 0 0,.ptr N 0 0] hp=some (r,h') ∧ (if wpE d p=0 then ∃ d',r=.ret d'.av ∧ DWrote d p d' else r=.pan (zbz (wpE d p))) ∧ Keep hp h' []:=by
 obtain ⟨m,rfl⟩:=pre1 n
 have hz:=(rightD_iff.1 hr).1
 have hno:=(check_iff.1 hc).1
 have cE:∀ h,C m 119 [p.av] h=some (.ret (.tup [.str p.enc,i64 0]),h):=fun h=>by
  have:=zj8 (n:=m) (h:=h) (by omega) p pk
  rw [hc] at this
  exact this
 have hN1:∀ x y z,(hp++[x]++[y]++[z])[N]?=some (pgC p):=fun x y z=>(zub hp x y z).get hN (by simp)
 refine za0 F117 rfl rfl ?_
 conv=>whnf
 refine ldI (za8 hD) ?_
 conv=>whnf
 refine clI (zw2 (by omega) d ok hr) ?_
 conv=>whnf
 refine ldI (hN1 _ _ _) ?_
 conv=>whnf
 refine clI (cE _) ?_
 conv=>whnf
 refine clI (z5b (by omega) _) ?_
 conv=>whnf
 refine ldI (hN1 _ _ _) ?_
 conv=>whnf
 refine clI (zha (by omega) d (wri3 _ _ _) (by omega)) ?_
 refine ⟨?_,?_⟩
 ·repeat' (conv=>whnf);first | done | exact ldI (hN1 _ _ _) rfl | refine ⟨?_,?_⟩ | rfl
 conv=>whnf
 by_cases h1:p.no<zaq d
 ·refine clI (zmw (by omega) (by rw [decide_eq_true_iff];exact h1) 1) ?_
  conv=>whnf
  refine ldI (hN1 _ _ _) ?_
  conv=>whnf
  refine zI (z:=((p.no.toNat*8:Nat):Int)) (by rw [zae (by omega) (by omega)];omega) ?_
  conv=>whnf
  have hk:p.no.toNat*8+8 ≤ d.secs.length:=by unfold zaq at h1;omega
  by_cases h2:d.ws.length+8 ≤ 40000
  ·have eW:wpE d p=0:=by unfold wpE;rw [if_pos hr,if_pos hc,if_pos h1,if_pos h2]
   obtain ⟨d',e1,e2,e3,o,cW⟩:=zyd (n:=m-1) (by omega) d ok hr (p.no.toNat*8) p.enc 8 (by rw [zgt hc]) (by decide) hk h2
   refine clI (zvh (by omega) (wri3 _ _ _) cW) ?_
   conv=>whnf
   refine ldI (List.getElem?_set_self (zab (wri3 _ _ _))) ?_
   conv=>whnf
   have gX:∀ x:AB,((hp++[x]++[dkC d]++[wriC d]).set ((hp++[x]).length+1) (wriC d'))[hp.length]?=some x:=fun x=>by
    rw [List.getElem?_set_ne (by simp;omega)];exact fst3 _ _ _ _
   refine stJ (xs:=d'.cells) (gX _) ?_
   exact ⟨_,zci rfl (z19 rfl (List.getElem?_set_self (zab (gX _)))),by rw [if_pos eW];exact ⟨d',rfl,o,e1,e2,e3⟩,((zub _ _ _ _).set' (.inr (by simp;omega))).set' (.inr (Nat.le_refl _))⟩
  ·have eW:wpE d p=3:=by unfold wpE;rw [if_pos hr,if_pos hc,if_pos h1,if_neg h2]
   have cW:∀ h,C (m-1) 182 [d.av,i64 ((p.no.toNat*8:Nat):Int),.str p.enc] h=some (.ret (.tup [Dk.zero.av,i64 3]),h):=fun h=>zuo (n:=m-1) (h:=h) (by omega) d ok hr (p.no.toNat*8) p.enc 8 (by rw [zgt hc]) (by decide) hk (by omega)
   refine clP (zvi (by omega) (wri3 _ _ _) (e:=3) (by decide) cW) ?_
   exact ⟨by rw [if_neg (by rw [eW];decide),eW],zub _ _ _ _⟩
 ·have eW:wpE d p=1:=by unfold wpE;rw [if_pos hr,if_pos hc,if_neg h1]
  refine clP (zr9 (by omega) (by rw [decide_eq_false_iff_not];exact h1) 1 (by decide)) ?_
  exact ⟨by rw [if_neg (by rw [eW];decide),eW],zub _ _ _ _⟩
theorem z27:fnOk Tryz.prog 117=true:=by kernel_rfl
theorem z3s (hn:11 ≤ n) (ok:d.Ok) (pk:p.Ok) {D N:Nat}(hD:hp[D]?=some (dkC d)) (hN:hp[N]?=some (pgC p)) :
  ∃ r h',C n 117 [.ptr D 0 0,.ptr N 0 0] hp=some (r,h') ∧ (if wpE d p=0 then ∃ d',r=.ret d'.av ∧ DWrote d p d' else r=.pan (zbz (wpE d p))) ∧ Keep hp h' []:=by
 cases hr:zan d with
 | false =>
  obtain ⟨r,h',e,e1,k⟩:=zzs (n:=n) (by omega) ok hr hD (N:=N)
  have eW:wpE d p=2:=by unfold wpE;rw [if_neg (by simp [hr])]
  exact ⟨r,h',e,by rw [eW,if_neg (by decide)];exact e1,k⟩
 | true =>
  cases hc:p.check with
  | false =>
   obtain ⟨r,h',e,e1,k⟩:=z3r (n:=n) (by omega) ok pk hr hc hD hN
   have eW:wpE d p=2:=by unfold wpE;rw [if_pos hr,if_neg (by simp [hc])]
   exact ⟨r,h',e,by rw [eW,if_neg (by decide)];exact e1,k⟩
  | true=>exact zzr hn ok pk hr hc hD hN
theorem znq (hn:13 ≤ n) (ok:d.Ok) (pk:p.Ok):∃ d':Dk,d'.Ok ∧ (wpE d p=0 → DWrote d p d') ∧ ∀ h,C n 50 [d.av,p.av] h=some (.ret (.tup [d'.av,i64 (wpE d p)]),h):=by
 obtain ⟨m,rfl⟩ : ∃ m,n=m+2:=⟨n-2,by omega⟩
 obtain ⟨r,h',e0,hr,k0⟩:=z3s (n:=m) (hp:=[dkC d,pgC p,zCDi]++[zCDi]++[errC 0]) (D:=0) (N:=1) (by omega) ok pk rfl rfl
 have g3:=k0.get (x:=3) rfl (by simp)
 have g4:=k0.get (x:=4) rfl (by simp)
 have g2:=k0.get (x:=2) rfl (by simp)
 have main:∃ d':Dk,d'.Ok ∧ (wpE d p=0 → DWrote d p d') ∧ ∃ h3,C (m+1) 78 [.fn (.func 117) [] [.ptr 0 0 0,.ptr 1 0 0]] [dkC d,pgC p,zCDi]=some (.ret (.tup [d'.av,i64 (wpE d p)]),h3) ∧ h3[2]?=some zCDi:=by
  by_cases c:wpE d p=0
  ·rw [if_pos c] at hr
   obtain ⟨d',rfl,w⟩:=hr
   obtain ⟨r,h3,e1,rfl,k1⟩:=zz1 (m:=m) (hp:=[dkC d,pgC p,zCDi]) (cs:=d'.cells) z27 e0 rfl rfl g3 g4
   rw [c]
   exact ⟨d',w.ok,fun _=>w,h3,e1,k1.get g2 (by simp)⟩
  ·rw [if_neg c] at hr
   subst hr
   obtain ⟨r,h3,e1,rfl,k1⟩:=zz4 (m:=m) (hp:=[dkC d,pgC p,zCDi]) (cs:=zTDi) z27 e0 rfl g3 g4
   exact ⟨Dk.zero,Dk.zero_ok,fun q=>(c q).elim,h3,e1,k1.get g2 (by simp)⟩
 obtain ⟨d',o,w,h3,e1,g⟩:=main
 refine ⟨d',o,w,fun h=>?_⟩
 refine zak F50 rfl rfl rfl (by simp [zam,zbk,zb5,AV.pureB]) ?_
 conv=>whnf
 refine clI e1 ?_
 conv=>whnf
 refine stJ (xs:=d'.cells) g ?_
 refine ⟨rfl,[d'.av,i64 (wpE d p)],?_,z5s _ _ _⟩
 exact res_ct rfl rfl (z19 rfl (List.getElem?_set_self (zab g)))
end
theorem zy3 {n:Nat}{l:List Int}:z2n n l=true ↔ (∀ b∈l,0 ≤ b ∧ b<(n:Int)) ∧ l.Pairwise (· < ·):=by
 unfold z2n
 rw [List.all_eq_true]
 constructor
 ·intro h
  have hb:∀ i (hi:i<l.length),0 ≤ l[i] ∧ l[i]<n ∧ (i=0 ∨ l.getD (i-1) 0<l[i]):=fun i hi=>by
   have:=h i (List.mem_range.2 hi)
   unfold zcs at this
   rw [zfl hi] at this
   simp only [Bool.and_eq_true,Bool.or_eq_true,decide_eq_true_eq] at this
   exact ⟨this.1,this.2.1,this.2.2⟩
  refine ⟨fun b hb'=>?_,List.pairwise_iff_getElem.2 fun i j hi hj hij=>?_⟩
  ·obtain ⟨i,hi,rfl⟩:=List.getElem_of_mem hb'
   exact ⟨(hb i hi).1,(hb i hi).2.1⟩
  ·induction j with
   | zero=>omega
   | succ j ih =>
    have h1:=(hb (j+1) hj).2.2.resolve_left (by omega)
    rw [Nat.add_sub_cancel,zfl (show j<l.length by omega)] at h1
    by_cases c:i=j
    ·subst c;exact h1
    ·exact Int.lt_trans (ih (by omega) (by omega)) h1
 ·rintro ⟨h1,h2⟩ i hi
  have hi:=List.mem_range.1 hi
  unfold zcs
  rw [zfl hi]
  have:=h1 _ (List.getElem_mem hi)
  simp only [Bool.and_eq_true,Bool.or_eq_true,decide_eq_true_eq]
  refine ⟨this.1,this.2,?_⟩
  by_cases c:i=0
  ·exact .inl c
  ·rw [zfl (show i-1<l.length by omega)]
   exact .inr (List.pairwise_iff_getElem.1 h2 (i-1) i (by omega) hi (by omega))
theorem rightD_iff2 {d:Dk}:zan d=true ↔ (1 ≤ d.secs.length ∧ d.secs.length ≤ 32768 ∧ d.ws.length ≤ 40000) ∧ (∀ s∈d.secs,s.length=64) ∧ (∀ w∈d.ws,0 ≤ w.sec ∧ w.sec<(d.secs.length:Int) ∧ w.data.length=64) ∧ (∀ b∈d.bad,0 ≤ b ∧ b<(d.secs.length:Int)) ∧ d.bad.Pairwise (· < ·):=by
 have e1:∀ w:Wr,wrOk d.secs.length w=true ↔ 0 ≤ w.sec ∧ w.sec<(d.secs.length:Int) ∧ w.data.length=64:=fun w=>by simp [wrOk]
 unfold zan
 simp only [Bool.and_eq_true,decide_eq_true_eq,List.all_eq_true,zy3,e1]
abbrev zqd (s:Str) (i:Nat):Str:=(s.take (64*(i+1))).drop (64*i)
theorem zws {s:Str}{i j:Nat}(hs:s.length=64*j) (hi:i<j):(zqd s i).length=64:=by
 simp [zqd,hs];omega
theorem zlj (s:Str):∀ j,(List.range j).flatMap (zqd s)=s.take (64*j)
 | 0=>by simp
 | j+1=>by
  rw [List.range_succ,List.flatMap_append,zlj s j]
  have:s.take (64*(j+1))=(s.take (64*(j+1))).take (64*j)++(s.take (64*(j+1))).drop (64*j):=(List.take_append_drop ..).symm
  rw [List.take_take,Nat.min_eq_left (by omega)] at this
  rw [this]
  simp [zqd]
theorem z2c (a b:List Wr) (s:Str) (x:Int):curW (a++b) s x=curW b (curW a s x) x:=by simp [curW,List.foldl_append]
theorem z26 (b:List Wr) (x:Int):∀ i:Bool,b.foldl (fun a w=>a||decide (w.sec=x)) i=(i||frW b x):=by
 induction b with
 | nil=>intro i;simp [frW]
 | cons w b ih=>intro i;simp only [List.foldl_cons,frW];rw [ih,ih];simp [Bool.or_assoc]
theorem z5j (a b:List Wr) (x:Int):frW (a++b) x=(frW a x||frW b x):=by
 show (a++b).foldl _ false=_
 rw [List.foldl_append,z26]
 rfl
theorem zst (k:Nat) (t:Str) (s:Str) (x:Nat):∀ j,curW (newW k t j) s (x:Int)=if k ≤ x ∧ x<k+j then zqd t (x-k) else s
 | 0=>by rw [if_neg (by omega)];rfl
 | j+1=>by
  rw [zjm,zfq,zst k t s x j]
  by_cases c:x=k+j
  ·rw [if_pos (by simp [c]),if_pos (by omega),show x-k=j by omega]
  ·rw [if_neg (by simp;omega)]
   by_cases c2:k ≤ x ∧ x<k+j
   ·rw [if_pos c2,if_pos (by omega)]
   ·rw [if_neg c2,if_neg (by omega)]
theorem zx1 (k:Nat) (t:Str) (x:Nat):∀ j,frW (newW k t j) (x:Int)=decide (k ≤ x ∧ x<k+j)
 | 0=>by rw [decide_eq_false (by omega)];rfl
 | j+1=>by
  rw [zjm,zhh,zx1 k t x j,Bool.eq_iff_iff]
  simp only [Bool.or_eq_true,decide_eq_true_eq]
  omega
section
variable {d d':Dk}{p:Page}
theorem zpz (hr:zan d=true) (hc:p.check=true) (hp:p.no<zaq d) (hl:d.ws.length+8 ≤ 40000) (w:DWrote d p d'):zan d'=true:=by
 obtain ⟨z,hs,hw,hb⟩:=rightD_iff2.1 hr
 have hno:=(check_iff.1 hc).1
 rw [rightD_iff2,w.secs,w.ws,w.bad]
 refine ⟨⟨z.1,z.2.1,by rw [List.length_append,zr8];exact hl⟩,hs,fun v hv=>?_,hb⟩
 rcases List.mem_append.1 hv with q | q
 ·exact hw v q
 ·obtain ⟨i,hi,rfl⟩:=List.mem_map.1 q
  have hi:=List.mem_range.1 hi
  have:p.no.toNat*8+8 ≤ d.secs.length:=by unfold zaq at hp;omega
  exact ⟨by simp only;omega,by simp only;omega,zws (j:=8) (by rw [zgt hc]) hi⟩
theorem ziv (w:DWrote d p d'):zaq d'=zaq d:=by unfold zaq;rw [w.secs]
theorem znn (w:DWrote d p d') (x:Nat):curD d' x=if p.no.toNat*8 ≤ x ∧ x<p.no.toNat*8+8 then zqd p.enc (x-p.no.toNat*8) else curD d x:=by
 unfold curD
 rw [w.ws,w.secs,z2c,zst]
theorem zno (w:DWrote d p d') (x:Nat):canD d' x=(decide (p.no.toNat*8 ≤ x ∧ x<p.no.toNat*8+8)||canD d x):=by
 unfold canD
 rw [w.ws,w.bad,z5j,zx1]
 cases frW d.ws (x:Int)<;>simp
theorem zs7 (hc:p.check=true) (w:DWrote d p d'):zbc d' (p.no.toNat*8) 8=true ∧ zby d' (p.no.toNat*8) 8=p.enc:=by
 constructor
 ·rw [allCan_iff]
  intro i hi
  rw [zno w,decide_eq_true (by omega)]
  rfl
 ·have:zby d' (p.no.toNat*8) 8=(List.range 8).flatMap (zqd p.enc):=by
   unfold zby
   rw [List.flatMap_def,List.flatMap_def]
   congr 1
   refine List.map_congr_left fun i hi=>?_
   have hi:=List.mem_range.1 hi
   rw [znn w,if_pos (by omega),show p.no.toNat*8+i-p.no.toNat*8=i by omega]
  rw [this,zlj]
  exact List.take_of_length_le (by rw [zgt hc];decide)
theorem ziu (w:DWrote d p d') {x:Nat}(hx:¬(p.no.toNat*8 ≤ x ∧ x<p.no.toNat*8+8)):canD d' x=canD d x ∧ curD d' x=curD d x:=by
 rw [zno w,znn w,decide_eq_false hx,if_neg hx]
 exact ⟨rfl,rfl⟩
end
theorem z3v {was data:Str}(h1:was.length=64) (h2:data.length=64):zkt was data 64=data:=by
 unfold zkt
 rw [List.take_of_length_le (by omega),List.drop_of_length_le (by omega),List.append_nil]
theorem zpi:∀ (ws:List Wr) (i:Nat) (s:Str) (x:Int),(∀ w∈ws,w.data.length=64) → s.length=64 → crS [] ws i s x=curW ws s x
 | [],_,s,x,_,_=>rfl
 | w::r,i,s,x,hw,hs=>by
  have hd:=hw w (by simp)
  show crS [] r (i+1) (if w.sec=x then zkt s w.data (outN [] i) else s) x=curW r (if w.sec=x then w.data else s) x
  rw [zr5,z3v hs hd]
  exact zpi r (i+1) _ x (fun v hv=>hw v (by simp [hv])) (by split;exact hd;exact hs)
theorem zns (x:Int):∀ (ws:List Wr) (i:Nat) (ks:List Int),x∈whK [] ws i ks ↔ x∈ks ∨ frW ws x=true
 | [],_,ks=>by simp [whK,frW]
 | w::r,i,ks=>by
  show x∈whK [] r (i+1) (if outN [] i=64 then insK ks w.sec else ks) ↔ _
  rw [zr5,if_pos rfl,zns x r (i+1),z1c]
  have:frW (w::r) x=(decide (w.sec=x)||frW r x):=by
   show (w::r).foldl _ false=_
   rw [List.foldl_cons,z26]
   simp
  rw [this]
  simp only [Bool.or_eq_true,decide_eq_true_eq]
  constructor
  ·rintro ((h | h) | h)
   ·exact .inl h
   ·exact .inr (.inl h.symm)
   ·exact .inr (.inr h)
  ·rintro (h | h | h)
   ·exact .inl (.inl h)
   ·exact .inl (.inr h.symm)
   ·exact .inr h
structure Crashed (pl:List Int) (d f:Dk):Prop where
 ok:f.Ok
 secs:f.secs=crL pl d d.ws.length
 ws:f.ws=[]
 bad:f.bad=kpB pl d d.bad.length
section
variable {d f:Dk}{pl:List Int}
theorem znc (hr:zan d=true) (c:Crashed pl d f):zan f=true:=by
 obtain ⟨z,hs,hw,hb,hp⟩:=rightD_iff2.1 hr
 rw [rightD_iff2,c.secs,c.ws,c.bad,zfr]
 refine ⟨⟨z.1,z.2.1,by simp⟩,z3d hr pl _,(fun w hw=>by cases hw),fun b hb'=>?_,?_⟩
 ·have:=(List.mem_filter.1 hb').1
  exact hb b (List.mem_of_mem_take this)
 ·exact (List.Pairwise.sublist (List.take_sublist _ _) hp).filter _
theorem znd (c:Crashed pl d f):zaq f=zaq d:=by unfold zaq;rw [c.secs,zfr]
theorem zqv (c:Crashed pl d f) {x:Nat}(hx:x<d.secs.length):curD f x=crS pl d.ws 0 (d.secs.getD x []) (x:Int):=by
 unfold curD
 rw [c.ws,c.secs]
 show (crL pl d d.ws.length).getD x []=_
 rw [List.getD_eq_getElem?_getD,List.getElem?_eq_getElem (by rw [zfr];exact hx),Option.getD_some,zpj,List.take_length]
theorem zqw (c:Crashed pl d f) (x:Nat):canD f x=(!d.bad.contains (x:Int)||decide ((x:Int)∈whK pl d.ws 0 [])):=by
 unfold canD
 rw [c.ws,c.bad]
 have h0:frW [] (x:Int)=false:=rfl
 rw [h0,Bool.false_or]
 unfold kpB
 rw [List.take_length,List.take_length]
 rw [Bool.eq_iff_iff]
 simp only [Bool.not_eq_true',Bool.or_eq_true,decide_eq_true_eq]
 rw [← Bool.not_eq_true,← Bool.not_eq_true,List.contains_iff_mem,List.contains_iff_mem,List.mem_filter]
 simp only [Bool.not_eq_true',decide_eq_false_iff_not,not_and,Classical.not_not]
 by_cases h:(x:Int)∈d.bad<;>simp [h]
theorem zo0 (hr:zan d=true) (c:Crashed [] d f) {x:Nat}(hx:x<d.secs.length):canD f x=canD d x ∧ curD f x=curD d x:=by
 obtain ⟨z,hs,hw,hb,hp⟩:=rightD_iff2.1 hr
 constructor
 ·rw [zqw c]
  unfold canD
  have:decide ((x:Int)∈whK [] d.ws 0 [])=frW d.ws (x:Int):=by
   rw [Bool.eq_iff_iff,decide_eq_true_iff,zns]
   simp
  rw [this,Bool.or_comm]
 ·rw [zqv c hx]
  unfold curD
  refine zpi _ _ _ _ (fun w hw'=>(hw w hw').2.2) ?_
  rw [List.getD_eq_getElem?_getD,List.getElem?_eq_getElem hx]
  exact hs _ (List.getElem_mem hx)
end
section
variable {n m:Nat}{h hp:zaa}
theorem z10 (hn:6 ≤ n) (d:Dk) (ok:d.Ok) (hr:zan d=true):∃ f:Dk,Crashed [] d f ∧ ∀ h,C n 51 [d.av] h=some (.ret f.av,h):=by
 obtain ⟨m,rfl⟩:=pre1 n
 obtain ⟨f,e1,e2,e3,o,cF⟩:=zus (n:=m) (by omega) d ok hr [] (fun k hk=>by cases hk) (sz:=0) (fun q=>(q rfl).elim) true (by simp)
 have cK:∀ h,C m 121 [d.av] h=some (.ret (i64 (if zan d then 0 else 2)),h):=fun h=>zhk (by omega) d ok
 rw [hr] at cK
 refine ⟨f,⟨o,e1,e2,e3⟩,fun h=>?_⟩
 refine zak F51 rfl rfl rfl (by simp [zam,zbk,AV.pureB]) ?_
 conv=>whnf
 refine ldI rfl ?_
 conv=>whnf
 refine clI (cK _) ?_
 conv=>whnf
 refine ldI rfl ?_
 conv=>whnf
 refine clI (cF _) ?_
 conv=>whnf
 refine stJ (xs:=f.cells) (by rfl) ?_
 exact ⟨rfl,_,zci rfl (z19 rfl rfl),zqu 60 _ f⟩
end
theorem res_lk {P:Program}{L:LT}{h:zaa}{t:Tmp}{v:AV}(hk:lk L t=some v):zbv P L h [.tmp t]=some [v]:=by simp only [zbv,hk]
section
variable {n m:Nat}{h:zaa}
structure PgI (p:Page):Prop where
 esz:p.entries≠[] → p.esh.sz=22
 fsz:p.freed≠[] → p.fsh.sz=2
 fr:∀ f∈p.freed,f.Ok ∧ f.pages.length<9223372036854775808
structure Few5 (p:Page):Prop where
 e:p.entries.length ≤ 60
 d:p.data.length ≤ 600
 f:p.freed.length ≤ 130
 k:∀ e∈p.entries,e.key.length ≤ 200 ∧ e.val.length ≤ 200
theorem Few5.ok {p:Page}(g:Few5 p) (i:PgI p):p.Ok :=
 ⟨i.esz,i.fsz,by have:=g.e;omega,by have:=g.f;omega,by have:=g.d;omega,fun e he=>by have:=g.k e he;exact ⟨by omega,by omega⟩,i.fr⟩
abbrev pgsA (l:List Page) (sz:Nat) (c:Bool):AV:=.lst sz (l.map Page.av) c
theorem zx8 (l:List Page) {sz:Nat}(hz:l≠[] → sz=10) (c:Bool) {j:Nat}(hj:j<l.length) (ok:PgI l[j]) {Q:Ex → LS → Prop}{s:LS}
  (hs:LS.sub ⟨[(0,pgsA l sz c),(3,i64 j),(4,i64 0),(5,i64 0)],[],[]⟩ s)
  (hE:∀ L,subL [(0,pgsA l sz c),(3,i64 j)] L → (∃ z,lk L 4=some (i64 z)) → Q (.exit 2) ⟨L,[],[]⟩) :
  OkR Tryz.prog (C m) cfg0.inl KK 106 7 (.loop (c22.lp 1)) s Q:=by
 have e2:(l[j].freed.map Freed.av).length=l[j].freed.length:=List.length_map ..
 refine za1 (by decide) rfl (α:=Int × Nat) (fun x=>⟨[(0,pgsA l sz c),(3,i64 j),(4,i64 x.1),(5,i64 x.2)],[],[]⟩) (fun x=>x.2 ≤ 131 ∧ x.2 ≤ l[j].freed.length) (fun x=>131-x.2) (0,0) hs ⟨by omega,Nat.zero_le _⟩ (by simp only [KK];omega) ?_
 rintro ⟨z,k⟩ ⟨g2,g3⟩
 simp only at g2 g3
 conv=>whnf
 refine ixL zcm hj hz ?_
 conv=>whnf
 refine brd (fun a2=>?_) (fun a2=>?_)
 ·have hk:k<l[j].freed.length:=by omega
  conv=>whnf
  refine brd (fun a3=>?_) (fun a3=>?_)
  ·conv=>whnf
   refine zI rfl ?_
   conv=>whnf
   refine ixL zcm hj hz ?_
   conv=>whnf
   refine ixL zbw hk ok.fsz ?_
   conv=>whnf
   refine zI rfl ?_
   conv=>whnf
   refine zI (z:=((k+1:Nat):Int)) (by rw [zae (by omega) (by omega)];rfl) ?_
   exact nxI (_,k+1) ⟨by simp only;omega,hk⟩ (by simp only;omega) ⟨⟨rfl,rfl,rfl,rfl⟩,rfl,rfl⟩
  ·conv=>whnf
   exact hE _ ⟨rfl,rfl⟩ ⟨_,rfl⟩
 ·conv=>whnf
  exact hE _ ⟨rfl,rfl⟩ ⟨_,rfl⟩
theorem z12 (l:List Page) {sz:Nat}(hz:l≠[] → sz=10) (c:Bool) {j:Nat}(hj:j<l.length) (ok:PgI l[j]) (h60:l[j].entries.length ≤ 60) {Q:Ex → LS → Prop}{s:LS}
  (hs:LS.sub ⟨[(0,pgsA l sz c),(3,i64 j),(6,i64 0)],[],[]⟩ s)
  (hE:(∀ e∈l[j].entries,e.key.length ≤ 200 ∧ e.val.length ≤ 200) → ∀ L,subL [(0,pgsA l sz c),(3,i64 j)] L → Q (.exit 4) ⟨L,[],[]⟩) (hR:∀ L,lk L 2=some (.bool false) → Q .ret ⟨L,[],[]⟩) :
  OkR Tryz.prog (C m) cfg0.inl KK 106 7 (.loop (c22.lp 2)) s Q:=by
 have e2:(l[j].entries.map Entry.av).length=l[j].entries.length:=List.length_map ..
 refine za1 (by decide) rfl (α:=Nat) (fun x=>⟨[(0,pgsA l sz c),(3,i64 j),(6,i64 x)],[],[]⟩) (fun x=>x ≤ l[j].entries.length ∧ ∀ i (hi:i<l[j].entries.length),i<x → l[j].entries[i].key.length ≤ 200 ∧ l[j].entries[i].val.length ≤ 200) (fun x=>l[j].entries.length-x) 0 hs ⟨Nat.zero_le _,fun i _ q=>absurd q (Nat.not_lt_zero _)⟩ (by simp only [KK];omega) ?_
 rintro k ⟨g2,g3⟩
 conv=>whnf
 refine ixL zcm hj hz ?_
 conv=>whnf
 refine brd (fun a2=>?_) (fun a2=>?_)
 ·have hk:k<l[j].entries.length:=by omega
  conv=>whnf
  refine ixL zcm hj hz ?_
  conv=>whnf
  refine ixL zbf hk ok.esz ?_
  conv=>whnf
  refine brd (fun a3=>?_) (fun a3=>?_)
  ·conv=>whnf
   exact hR _ rfl
  ·conv=>whnf
   refine ixL zcm hj hz ?_
   conv=>whnf
   refine ixL zbf hk ok.esz ?_
   conv=>whnf
   refine brd (fun a4=>?_) (fun a4=>?_)
   ·conv=>whnf
    exact hR _ rfl
   ·conv=>whnf
    refine zI (z:=((k+1:Nat):Int)) (by rw [zae (by omega) (by omega)];rfl) ?_
    exact nxI (k+1) ⟨hk,fun i hi q=>by
     by_cases c:i=k
     ·subst c;exact ⟨by omega,by omega⟩
     ·exact g3 i hi (by omega)⟩ (by omega) ⟨⟨rfl,rfl,rfl⟩,rfl,rfl⟩
 ·conv=>whnf
  exact hE (fun e he=>by
   obtain ⟨i,hi,rfl⟩:=List.getElem_of_mem he
   exact g3 i hi (by omega)) _ ⟨rfl,rfl⟩
theorem z5o (hn:1 ≤ n) (l:List Page) (hl:∀ p∈l,PgI p) {sz:Nat}(hz:l≠[] → sz=10) (c:Bool):∃ r,(∀ h,C n 22 [pgsA l sz c] h=some (r,h)) ∧ ∃ b:Bool,r=.ret (.bool b) ∧ (b=true → l.length ≤ 20 ∧ ∀ p∈l,p.Ok):=by
 obtain ⟨m,rfl⟩:=pre1 n
 have e1:(l.map Page.av).length=l.length:=List.length_map ..
 refine zfn F22 rfl rfl rfl (by simp [zam,AV.pureB,zcb zb5]) ?_
 conv=>whnf
 refine brd (fun a=>?_) (fun a=>?_)
 ·conv=>whnf
  exact ⟨_,rfl,_,⟨_,rfl,rfl⟩,_,rfl,fun q=>by cases q⟩
 have h20:l.length ≤ 20:=by omega
 conv=>whnf
 refine za1 (by decide) rfl (α:=Nat) (fun j=>⟨[(0,pgsA l sz c),(3,i64 j)],[],[]⟩) (fun j=>j ≤ l.length ∧ ∀ i (hi:i<l.length),i<j → Few5 l[i]) (fun j=>l.length-j) 0 ⟨⟨rfl,rfl⟩,rfl,rfl⟩ ⟨Nat.zero_le _,fun i _ q=>absurd q (Nat.not_lt_zero _)⟩ (by simp only [KK];omega) ?_
 rintro j ⟨g1,g2⟩
 conv=>whnf
 refine brd (fun a=>?_) (fun a=>?_)
 ·have hj:j<l.length:=by omega
  have ok:=hl _ (List.getElem_mem hj)
  have e2:(l[j].freed.map Freed.av).length=l[j].freed.length:=List.length_map ..
  have e3:(l[j].entries.map Entry.av).length=l[j].entries.length:=List.length_map ..
  conv=>whnf
  refine zx8 l hz c hj ok ⟨⟨rfl,rfl,rfl,rfl⟩,rfl,rfl⟩ fun L hL hz4=>?_
  obtain ⟨z,h4⟩:=hz4
  conv=>whnf
  refine cutI (by decide) rfl (t:=⟨[(0,pgsA l sz c),(3,i64 j),(4,i64 z)],[],[]⟩) ⟨⟨hL.1,hL.2,h4⟩,rfl,rfl⟩ ?_
  conv=>whnf
  refine ixL zcm hj hz ?_
  conv=>whnf
  refine brd (fun _=>?_) (fun a1=>?_)
  ·conv=>whnf
   exact ⟨_,rfl,_,⟨_,rfl,rfl⟩,_,rfl,fun q=>by cases q⟩
  conv=>whnf
  refine brd (fun _=>?_) (fun a2=>?_)
  ·conv=>whnf
   exact ⟨_,rfl,_,⟨_,rfl,rfl⟩,_,rfl,fun q=>by cases q⟩
  conv=>whnf
  refine ixL zcm hj hz ?_
  conv=>whnf
  refine brd (fun _=>?_) (fun a3=>?_)
  ·conv=>whnf
   exact ⟨_,rfl,_,⟨_,rfl,rfl⟩,_,rfl,fun q=>by cases q⟩
  conv=>whnf
  refine ixL zcm hj hz ?_
  conv=>whnf
  refine brd (fun _=>?_) (fun a4=>?_)
  ·conv=>whnf
   exact ⟨_,rfl,_,⟨_,rfl,rfl⟩,_,rfl,fun q=>by cases q⟩
  conv=>whnf
  refine z12 l hz c hj ok (by omega) ⟨⟨rfl,rfl,rfl⟩,rfl,rfl⟩ (fun ek L hL=>?_) (fun L hL=>?_)
  ·conv=>whnf
   refine cutI (by decide) rfl (t:=⟨[(0,pgsA l sz c),(3,i64 j)],[],[]⟩) ⟨hL,rfl,rfl⟩ ?_
   conv=>whnf
   refine zJ j ?_
   exact nxI (j+1) ⟨hj,fun i hi q=>by
    by_cases c:i=j
    ·subst c;exact ⟨by omega,by omega,by omega,ek⟩
    ·exact g2 i hi (by omega)⟩ (by omega) ⟨⟨rfl,rfl⟩,rfl,rfl⟩
  ·conv=>whnf
   exact ⟨_,res_lk hL,_,⟨_,rfl,rfl⟩,_,rfl,fun q=>by cases q⟩
 ·conv=>whnf
  refine cutI (by decide) rfl (t:=⟨[],[],[]⟩) ⟨trivial,rfl,rfl⟩ ?_
  conv=>whnf
  exact ⟨_,rfl,_,⟨_,rfl,rfl⟩,_,rfl,fun _=>⟨h20,fun p hp=>by
   obtain ⟨i,hi,rfl⟩:=List.getElem_of_mem hp
   exact (g2 i hi (by omega)).ok (hl _ hp)⟩⟩
end
section
variable {n:Nat}{h:zaa}
theorem z0i (hn:1 ≤ n) (d:Dk) (ok:d.Ok):∃ r,(∀ h,C n 21 [d.av] h=some (r,h)) ∧ ∃ b:Bool,r=.ret (.bool b):=by
 obtain ⟨m,rfl⟩:=pre1 n
 have e1:(d.secs.map AV.str).length=d.secs.length:=List.length_map ..
 have e2:(d.ws.map Wr.av).length=d.ws.length:=List.length_map ..
 refine zfn F21 rfl rfl rfl (by simp [zam,zbk]) ?_
 by_cases hz:d.secs.length ≤ 200 ∧ d.ws.length ≤ 200 ∧ d.bad.length ≤ 200
 ·have e3:(d.bad.map i64).length=d.bad.length:=List.length_map ..
  conv=>whnf
  refine ldI rfl ?_
  conv=>whnf
  refine brd (fun a=>absurd a (by omega)) (fun _=>?_)
  conv=>whnf
  refine ldI rfl ?_
  conv=>whnf
  refine brd (fun a=>absurd a (by omega)) (fun _=>?_)
  conv=>whnf
  refine ldI rfl ?_
  conv=>whnf
  refine brd (fun a=>absurd a (by omega)) (fun _=>?_)
  conv=>whnf
  refine za1 (by decide) rfl (α:=Nat) (fun j=>⟨[(1,.ptr 0 0 0),(3,i64 j)],[dkC d],[]⟩) (fun j=>j ≤ d.secs.length) (fun j=>d.secs.length-j) 0 ⟨⟨rfl,rfl⟩,rfl,rfl⟩ (Nat.zero_le _) (by simp only [KK];omega) ?_
  intro j g1
  conv=>whnf
  refine ldI rfl ?_
  conv=>whnf
  refine brd (fun a=>?_) (fun a=>?_)
  ·have hj:j<d.secs.length:=by omega
   conv=>whnf
   refine ldI rfl ?_
   conv=>whnf
   refine ixL zg0 hj ok.ss ?_
   conv=>whnf
   refine brd (fun q=>?_) (fun q=>?_)
   ·exact ⟨_,rfl,_,⟨_,rfl,rfl⟩,_,rfl⟩
   ·conv=>whnf
    refine zJ j ?_
    exact nxI (j+1) hj (by omega) ⟨⟨rfl,rfl⟩,rfl,rfl⟩
  ·conv=>whnf
   refine cutI (by decide) rfl (t:=⟨[(1,.ptr 0 0 0)],[dkC d],[]⟩) ⟨rfl,rfl,rfl⟩ ?_
   conv=>whnf
   refine za1 (by decide) rfl (α:=Nat) (fun j=>⟨[(1,.ptr 0 0 0),(4,i64 j)],[dkC d],[]⟩) (fun j=>j ≤ d.ws.length) (fun j=>d.ws.length-j) 0 ⟨⟨rfl,rfl⟩,rfl,rfl⟩ (Nat.zero_le _) (by simp only [KK];omega) ?_
   intro j g1
   conv=>whnf
   refine ldI rfl ?_
   conv=>whnf
   refine brd (fun a=>?_) (fun a=>?_)
   ·have hj:j<d.ws.length:=by omega
    conv=>whnf
    refine ldI rfl ?_
    conv=>whnf
    refine ixL zc1 hj ok.sw ?_
    conv=>whnf
    refine brd (fun q=>?_) (fun q=>?_)
    ·exact ⟨_,rfl,_,⟨_,rfl,rfl⟩,_,rfl⟩
    ·conv=>whnf
     refine zJ j ?_
     exact nxI (j+1) hj (by omega) ⟨⟨rfl,rfl⟩,rfl,rfl⟩
   ·conv=>whnf
    refine cutI (by decide) rfl (t:=⟨[],[dkC d],[]⟩) ⟨trivial,rfl,rfl⟩ ?_
    exact ⟨_,rfl,_,⟨_,rfl,rfl⟩,_,rfl⟩
 ·have e3:(d.bad.map i64).length=d.bad.length:=List.length_map ..
  repeat' (conv=>whnf);first
   | (exfalso;omega)
   | refine brd (fun _=>?_) (fun _=>?_)
   | refine bre (fun _=>?_) (fun _=>?_)
   | refine brq (fun _=>?_) (fun _=>?_)
   | refine brn (fun _=>?_) (fun _=>?_)
   | refine br (fun _=>?_) (fun _=>?_)
   | refine ldI (by rfl) ?_
   | refine ldI (zaf _ _ _) ?_
   | refine ldI (zad _ _) ?_
   | refine stJ (by rfl) ?_
   | refine stJ (zad _ _) ?_
   | refine zI (zae (by omega) (by omega)) ?_
   | refine cutS (by decide) rfl ?_
  all_goals exact ⟨_,rfl,_,⟨_,rfl,rfl⟩,_,rfl⟩
end
section
variable {n m:Nat}{h hp:zaa}{d:Dk}
end
section
variable {n m:Nat}{h hp:zaa}{d:Dk}
theorem z0l (l:List Rt) (sz:Nat) (c:Bool):(AV.lst sz (l.map Rt.av) c).pureB=true:=by simp [AV.pureB,zcb z35]
theorem ztj (hn:1 ≤ n) (l:List Rt) (hl:l.length ≤ 2) (sz sz':Nat) (c c':Bool) (z:l≠[] → sz=21) (z':l≠[] → sz'=21):C n 49 [.lst sz (l.map Rt.av) c,.lst sz' (l.map Rt.av) c'] h=some (.ret (.bool true),h):=by
 obtain ⟨m,rfl⟩:=pre1 n
 have e1:(l.map Rt.av).length=l.length:=List.length_map ..
 refine zak F49 rfl rfl rfl (by simp [zam,z0l]) ?_
 conv=>whnf
 refine brq (fun a=>absurd rfl a) (fun _=>?_)
 conv=>whnf
 refine za1 (by decide) rfl (α:=Nat) (fun j=>⟨[(0,.lst sz (l.map Rt.av) c),(1,.lst sz' (l.map Rt.av) c'),(5,i64 j)],[],[]⟩) (fun j=>j ≤ l.length) (fun j=>l.length-j) 0 ⟨⟨rfl,rfl,rfl⟩,rfl,rfl⟩ (Nat.zero_le _) (by simp only [KK];omega) ?_
 intro j g1
 conv=>whnf
 refine brd (fun a=>?_) (fun a=>?_)
 ·have hj:j<l.length:=by omega
  conv=>whnf
  refine ⟨by omega,z (zdt hj),l[j].av,zgq _ hj,l[j].cells,rfl,?_⟩
  conv=>whnf
  refine ⟨by omega,z' (zdt hj),l[j].av,zgq _ hj,l[j].cells,rfl,?_⟩
  conv=>whnf
  refine eqI (zpc l[j]) ?_
  conv=>whnf
  refine zJ j ?_
  exact nxI (j+1) hj (by omega) ⟨⟨rfl,rfl,rfl⟩,rfl,rfl⟩
 ·conv=>whnf
  refine cutI (by decide) rfl (t:=⟨[],[],[]⟩) ⟨trivial,rfl,rfl⟩ ?_
  exact ⟨rfl,_,rfl,rfl⟩
end
structure LP (d c f:Dk) (p:Page) (h:zaa):Prop where
 h0:h[0]?=some (dkC d)
 h1:h[1]?=some (pgC p)
 h2:h[2]?=some (dkC c)
 h3:h[3]?=some (dkC f)
theorem LP.lt {d c f:Dk}{p:Page}{h:zaa}(g:LP d c f p h):3<h.length:=zab g.h3
theorem LP.keep {d c f:Dk}{p:Page}{h h':zaa}(g:LP d c f p h) (k:∀ x,x ≤ 3 → h'[x]?=h[x]?):LP d c f p h' :=
 ⟨by rw [k 0 (by omega)];exact g.h0,by rw [k 1 (by omega)];exact g.h1,by rw [k 2 (by omega)];exact g.h2,by rw [k 3 (by omega)];exact g.h3⟩
theorem LP.ap {d c f:Dk}{p:Page}{h:zaa}(g:LP d c f p h) (x y:AB):LP d c f p ((h++[x]).set h.length y):=by
 have:=g.lt
 exact g.keep fun z hz=>by rw [List.getElem?_set_ne (by omega),List.getElem?_append_left (by omega)]
theorem gap {h:zaa}{i:Nat}{x y:AB}(hi:i<h.length):((h++[x]).set h.length y)[i]?=h[i]?:=by
 rw [List.getElem?_set_ne (by omega),List.getElem?_append_left hi]
theorem zic {d c:Dk}{k n:Nat}(h:∀ i,i<n → canD c (k+i)=canD d (k+i) ∧ curD c (k+i)=curD d (k+i)):zbc c k n=zbc d k n ∧ zby c k n=zby d k n:=by
 constructor
 ·rw [Bool.eq_iff_iff,allCan_iff,allCan_iff]
  exact ⟨fun q i hi=>by rw [← (h i hi).1];exact q i hi,fun q i hi=>by rw [(h i hi).1];exact q i hi⟩
 ·unfold zby
  rw [List.flatMap_def,List.flatMap_def]
  congr 1
  exact List.map_congr_left fun i hi=>(h i (List.mem_range.1 hi)).2
section
variable {n m:Nat}{h:zaa}{d c f:Dk}{p:Page}
theorem ztn (hn:16 ≤ n) (ok:d.Ok) (oc:c.Ok) (hr:zan d=true) (cr:zan c=true) (hN:zaq c=zaq d) (hx:∀ x,x=0 ∨ x=8 → canD c x=canD d x ∧ curD c x=curD d x) :
  ∃ (l:List Rt) (sz sz':Nat) (b b':Bool) (E:Int),l.length ≤ 2 ∧ (l≠[] → sz=21) ∧ (l≠[] → sz'=21) ∧ (∀ h,C n 43 [d.av] h=some (.ret (.tup [.lst sz (l.map Rt.av) b,i64 E]),h)) ∧ ∀ h,C n 43 [c.av] h=some (.ret (.tup [.lst sz' (l.map Rt.av) b',i64 E]),h):=by
 have e2:twoE c=twoE d:=by unfold twoE;rw [hr,cr,hN]
 by_cases he:twoE d=0
 ·obtain ⟨_,h2⟩:=two_iff.1 he
  obtain ⟨a,b,ea,eb,G⟩:=z34 d hr h2
  obtain ⟨sz,c1,z,e1⟩:=zlf (n:=n) hn ok he (G d ok hr rfl fun x _=>⟨rfl,rfl⟩)
  obtain ⟨sz',c2,z',e3⟩:=zlf (n:=n) hn oc (by rw [e2];exact he) (G c oc cr hN hx)
  exact ⟨zii (newL a b ea eb),sz,sz',c1,c2,0,by simpa using zmv a b ea eb,fun q=>z (fun e=>q (by rw [e];rfl)),fun q=>z' (fun e=>q (by rw [e];rfl)),e1,e3⟩
 ·refine ⟨[],0,0,true,true,twoE d,by simp,fun q=>(q rfl).elim,fun q=>(q rfl).elim,fun h=>zi8 (by omega) ok he,fun h=>?_⟩
  have:=zi8 (n:=n) (h:=h) (by omega) oc (by rw [e2];exact he)
  rwa [e2] at this
theorem zkx (hm:14 ≤ m) (ok:d.Ok) (oc:c.Ok) (of:f.Ok) (pk:p.Ok) (hr:zan d=true) (cr:zan c=true) (fr:zan f=true) (hc:p.check=true) (w:DWrote d p c) (hp:p.no<zaq d) (fc:Crashed [] c f) {s:LS}(h0:zaa) (g0:LP d c f p h0)
  (hs:LS.sub ⟨[(2,.ptr 0 0 0),(3,.ptr 1 0 0),(5,.ptr 2 0 0),(7,.ptr 3 0 0),(8,i64 2)],h0,[]⟩ s) {Q:Ex → LS → Prop}
  (hE:∀ L h,LP d c f p h → subL [(2,.ptr 0 0 0),(3,.ptr 1 0 0),(5,.ptr 2 0 0)] L → Q (.exit 0) ⟨L,h,[]⟩) :
  OkR Tryz.prog (C m) cfg0.inl KK 112 7 (.loop (c9.lp 0)) s Q:=by
 have e1:(d.secs.map AV.str).length=d.secs.length:=List.length_map ..
 have hz:=(rightD_iff.1 hr).1
 have hno:=(check_iff.1 hc).1
 have hN:=ziv w
 have hF:=znd fc
 refine za1 (by decide) rfl (α:=Nat × zaa) (fun x=>⟨[(2,.ptr 0 0 0),(3,.ptr 1 0 0),(5,.ptr 2 0 0),(7,.ptr 3 0 0),(8,i64 x.1)],x.2,[]⟩) (fun x=>2 ≤ x.1 ∧ x.1 ≤ zaq d+2 ∧ LP d c f p x.2) (fun x=>zaq d+2-x.1) (2,h0) hs ⟨Nat.le_refl _,by simp only;omega,g0⟩ (by simp only [KK];unfold zaq;omega) ?_
 rintro ⟨k,hp'⟩ ⟨g1,g2,g⟩
 simp only at g1 g2 g
 conv=>whnf
 refine ldI (g.h0) ?_
 conv=>whnf
 refine ⟨by decide,(zaq d:Int),by rw [e1,z4l,zae (by omega) (by omega)];rfl,?_⟩
 conv=>whnf
 refine brd (fun a=>?_) (fun a=>?_)
 ·have hk:k<zaq d:=by omega
  have hs8:k*8+8 ≤ d.secs.length:=by unfold zaq at hk;omega
  obtain ⟨P,E,zE,_,G⟩:=z07 (zaq d) k hk (zbc d (k*8) 8) (zby d (k*8) 8)
  obtain ⟨x,sx,ox,cX⟩:=((G d ok hr rfl rfl fun _=>rfl).file ok hr g1 hk) m hm
  have sf:=zic (d:=c) (c:=f) (k:=k*8) (n:=8) fun i hi=>zo0 cr fc (x:=k*8+i) (by rw [w.secs];omega)
  have n4:=g.lt
  conv=>whnf
  refine ldI (g.h0) ?_
  conv=>whnf
  refine clI (cX _) ?_
  conv=>whnf
  refine stJ (xs:=x.cells) (zad _ _) ?_
  conv=>whnf
  have q1:=g.ap (.cells 0 (some 79) zbo 0) (.cells 0 (some 79) x.cells 0)
  refine ldI (q1.h1) ?_
  conv=>whnf
  refine brd (fun a=>?_) (fun a=>?_)
  ·have wh:=zs7 hc w
   have ek:p.no.toNat=k:=by omega
   rw [ek] at wh
   have gC:=zwx oc cr (show k<zaq c by rw [hN];exact hk) wh.1 hc (by omega) wh.2
   have gF:=zwx of fr (show k<zaq f by rw [hF,hN];exact hk) (by rw [sf.1];exact wh.1) hc (by omega) (by rw [sf.2];exact wh.2)
   obtain ⟨y,sy,oy,cY⟩:=(gC.file oc cr g1 (by rw [hN];exact hk)) m hm
   obtain ⟨z,sz,oz,cZ⟩:=(gF.file of fr g1 (by rw [hF,hN];exact hk)) m hm
   have cS1:=fun h=>zf2 (n:=m) (h:=h) (by omega) sy pk oy
   have cS2:=fun h=>zf2 (n:=m) (h:=h) (by omega) sz pk oz
   conv=>whnf
   refine ldI (q1.h1) ?_
   conv=>whnf
   refine stJ (xs:=p.cells) (zaf _ _ _) ?_
   conv=>whnf
   have q2:LP d c f p (((hp'++[AB.cells 0 (some 79) zbo 0]).set hp'.length (.cells 0 (some 79) x.cells 0)).set hp'.length (pgC p)):=q1.keep fun z hz=>by rw [List.getElem?_set_ne (by omega)]
   refine ldI (q2.h2) ?_
   conv=>whnf
   refine clI (cY _) ?_
   conv=>whnf
   refine stJ (xs:=y.cells) (zad _ _) ?_
   conv=>whnf
   have q3:=q2.ap (.cells 0 (some 79) zbo 0) (.cells 0 (some 79) y.cells 0)
   refine ldI (q3.h3) ?_
   conv=>whnf
   refine clI (cZ _) ?_
   conv=>whnf
   refine stJ (xs:=z.cells) (zad _ _) ?_
   conv=>whnf
   have q4:=q3.ap (.cells 0 (some 79) zbo 0) (.cells 0 (some 79) z.cells 0)
   refine ldI ((gap (by simp)).trans ((gap (by simp)).trans (List.getElem?_set_self (by simp)))) ?_
   conv=>whnf
   refine ldI ((gap (by simp)).trans (zaf _ _ _)) ?_
   conv=>whnf
   refine clI (cS1 _) ?_
   conv=>whnf
   refine ldI ((gap (by simp)).trans ((gap (by simp)).trans (List.getElem?_set_self (by simp)))) ?_
   conv=>whnf
   refine ldI (zaf _ _ _) ?_
   conv=>whnf
   refine clI (cS2 _) ?_
   conv=>whnf
   refine zI (z:=((k+1:Nat):Int)) (by rw [zae (by omega) (by omega)];rfl) ?_
   exact nxI (k+1,_) ⟨by simp only;omega,by simp only;omega,q4⟩ (by simp only;omega) ⟨⟨rfl,rfl,rfl,rfl,rfl⟩,rfl,rfl⟩
  ·have sc:=zic (d:=d) (c:=c) (k:=k*8) (n:=8) fun i hi=>ziu w (x:=k*8+i) (by omega)
   have gC:=G c oc cr hN sc.1 fun _=>sc.2
   have gF:=G f of fr (by rw [hF,hN]) (by rw [sf.1,sc.1]) fun _=>by rw [sf.2,sc.2]
   obtain ⟨y,sy,oy,cY⟩:=(gC.file oc cr g1 (by rw [hN];exact hk)) m hm
   obtain ⟨z,sz,oz,cZ⟩:=(gF.file of fr g1 (by rw [hF,hN];exact hk)) m hm
   have cS1:=fun h=>zf2 (n:=m) (h:=h) (by omega) (sx.join sy) ox oy
   have cS2:=fun h=>zf2 (n:=m) (h:=h) (by omega) (sx.join sz) ox oz
   conv=>whnf
   refine ldI (q1.h2) ?_
   conv=>whnf
   refine clI (cY _) ?_
   conv=>whnf
   refine stJ (xs:=y.cells) (zad _ _) ?_
   conv=>whnf
   have q3:=q1.ap (.cells 0 (some 79) zbo 0) (.cells 0 (some 79) y.cells 0)
   refine ldI (q3.h3) ?_
   conv=>whnf
   refine clI (cZ _) ?_
   conv=>whnf
   refine stJ (xs:=z.cells) (zad _ _) ?_
   conv=>whnf
   have q4:=q3.ap (.cells 0 (some 79) zbo 0) (.cells 0 (some 79) z.cells 0)
   refine brq (fun a=>absurd rfl a) (fun _=>?_)
   conv=>whnf
   refine brq (fun a=>absurd rfl a) (fun _=>?_)
   conv=>whnf
   refine ldI ((gap (by simp)).trans ((gap (by simp)).trans (zaf _ _ _))) ?_
   conv=>whnf
   refine ldI ((gap (by simp)).trans (zaf _ _ _)) ?_
   conv=>whnf
   refine clI (cS1 _) ?_
   conv=>whnf
   refine ldI ((gap (by simp)).trans ((gap (by simp)).trans (zaf _ _ _))) ?_
   conv=>whnf
   refine ldI (zaf _ _ _) ?_
   conv=>whnf
   refine clI (cS2 _) ?_
   conv=>whnf
   refine zI (z:=((k+1:Nat):Int)) (by rw [zae (by omega) (by omega)];rfl) ?_
   exact nxI (k+1,_) ⟨by simp only;omega,by simp only;omega,q4⟩ (by simp only;omega) ⟨⟨rfl,rfl,rfl,rfl,rfl⟩,rfl,rfl⟩
 ·conv=>whnf
  exact hE _ _ g ⟨rfl,rfl,rfl⟩
theorem zzq (h:wpE d p=0):zan d=true ∧ p.check=true ∧ p.no<zaq d ∧ d.ws.length+8 ≤ 40000:=by
 unfold wpE at h
 by_cases a:zan d=true
 ·by_cases b:p.check=true
  ·by_cases c:p.no<zaq d
   ·by_cases e:d.ws.length+8 ≤ 40000
    ·exact ⟨a,b,c,e⟩
    ·rw [if_pos a,if_pos b,if_pos c,if_neg e] at h;cases h
   ·rw [if_pos a,if_pos b,if_neg c] at h;cases h
  ·rw [if_pos a,if_neg b] at h;cases h
 ·rw [if_neg a] at h;cases h
theorem zo3 (hn:20 ≤ n) (d:Dk) (ok:d.Ok) (p:Page) (pi:PgI p):C n 9 [d.av,p.av] h=some (.ret (.bool true),h):=by
 obtain ⟨m,rfl⟩:=pre1 n
 obtain ⟨rS,cS,bS,rfl⟩:=z0i (n:=m) (by omega) d ok
 obtain ⟨rF,cF,bF,rfl,hF⟩:=z5o (n:=m) (by omega) [p] (by simp [pi]) (sz:=10) (fun _=>rfl) true
 have cs:∀ h,C m 14 [] h=some (.ret (.bool true),h):=fun h=>z32 (by omega) h
 refine zak F9 rfl rfl rfl (by simp [zam,zbk,zb5,AV.pureB]) ?_
 cases bS with
 | false =>
  conv=>whnf
  refine ldI rfl ?_
  conv=>whnf
  refine clI (cS _) ?_
  conv=>whnf
  refine clI (cs _) ?_
  conv=>whnf
  exact ⟨rfl,_,rfl,rfl⟩
 | true =>
  cases bF with
  | false =>
   conv=>whnf
   refine ldI rfl ?_
   conv=>whnf
   refine clI (cS _) ?_
   conv=>whnf
   refine ldI rfl ?_
   conv=>whnf
   refine ⟨rfl,?_⟩
   conv=>whnf
   refine clI (cF _) ?_
   conv=>whnf
   refine clI (cs _) ?_
   conv=>whnf
   exact ⟨rfl,_,rfl,rfl⟩
  | true =>
   have pk:p.Ok:=(hF rfl).2 p (by simp)
   obtain ⟨c,oc,wr,cW⟩:=znq (n:=m) (by omega) ok pk
   conv=>whnf
   refine ldI rfl ?_
   conv=>whnf
   refine clI (cS _) ?_
   conv=>whnf
   refine ldI rfl ?_
   conv=>whnf
   refine ⟨rfl,?_⟩
   conv=>whnf
   refine clI (cF _) ?_
   conv=>whnf
   refine ldI rfl ?_
   conv=>whnf
   refine ldI rfl ?_
   conv=>whnf
   refine clI (cW _) ?_
   conv=>whnf
   refine stJ (xs:=c.cells) (by rfl) ?_
   conv=>whnf
   refine brq (fun _=>?_) (fun a=>?_)
   ·conv=>whnf
    refine clI (cs _) ?_
    conv=>whnf
    exact ⟨rfl,_,rfl,rfl⟩
   ·have a:wpE d p=0:=a
    obtain ⟨hr,hc,hp,hl⟩:=zzq a
    have w:=wr a
    have cr:=zpz hr hc hp hl w
    obtain ⟨f,fc,cL⟩:=z10 (n:=m) (by omega) c oc cr
    have fr:=znc cr fc
    have hno:=(check_iff.1 hc).1
    obtain ⟨l,sz,sz',b,b',E,ll,z,z',cR,cR2⟩:=ztn (n:=m) (by omega) ok oc hr cr (ziv w) fun x hx=>ziu w (by omega)
    have cQ:=fun h=>ztj (n:=m) (h:=h) (by omega) l ll sz sz' b b' z z'
    conv=>whnf
    refine ldI rfl ?_
    conv=>whnf
    refine clI (cL _) ?_
    conv=>whnf
    refine stJ (xs:=f.cells) (by rfl) ?_
    conv=>whnf
    refine zkx (m:=m) (by omega) ok oc fc.ok pk hr cr fr hc w hp fc [dkC d,pgC p,dkC c,dkC f] ⟨rfl,rfl,rfl,rfl⟩ ?_ ?_
    ·exact ⟨⟨rfl,rfl,rfl,rfl,rfl⟩,rfl,rfl⟩
    intro L h g hL
    conv=>whnf
    refine cutI (by decide) rfl (t:=⟨[(2,.ptr 0 0 0),(3,.ptr 1 0 0),(5,.ptr 2 0 0)],h,[]⟩) ⟨hL,rfl,rfl⟩ ?_
    conv=>whnf
    refine ldI (g.h0) ?_
    conv=>whnf
    refine clI (cR _) ?_
    conv=>whnf
    refine ldI (g.h2) ?_
    conv=>whnf
    refine clI (cR2 _) ?_
    conv=>whnf
    refine clI (cs _) ?_
    conv=>whnf
    refine brd (fun _=>?_) (fun a=>absurd rfl a)
    conv=>whnf
    refine clI (cQ _) ?_
    conv=>whnf
    exact ⟨rfl,_,rfl,zas (by simp)⟩
end
end Go.Proofs
