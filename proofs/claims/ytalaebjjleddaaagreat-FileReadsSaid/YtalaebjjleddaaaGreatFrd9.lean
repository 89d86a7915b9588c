/- Texts put together: We, Rd, Rh0, Re, Rf, Rg, Rh, Ri, Rj, Rk, Rl, Rm, La, Ha. -/
import Derived.Test.YtalaebjjleddaaaGreatFrd8
import Derived.Test.YtalaebjjleddaaaGreatFrd7
set_option linter.unusedVariables false
set_option linter.unusedSimpArgs false
namespace Go.Proofs
open Go Go.Abs
structure Sh where
 sz:Nat
 c:Bool
structure Freed where
 ver:Int
 sh:Sh
 pages:List Int
def Freed.cells (f:Freed):List AV:=[i64 f.ver,.lst f.sh.sz (f.pages.map i64) f.sh.c]
def Freed.av (f:Freed):AV:=.agg f.cells
def Freed.Ok (f:Freed):Prop:=f.pages≠[] → f.sh.sz=1
theorem zbb (f:Freed):f.av.cells?=some f.cells:=rfl
theorem zeu (k:Int):(i64 k).cells?=some [i64 k]:=rfl
def zi3 (next:Int) (data:Str):Str:=num next.toNat 4++(num data.length 2++data)
def zem (l:List Int):Str:=l.flatMap fun n=>num n.toNat 4
def zh1 (f:Freed):Str:=num f.ver.toNat 6++(num f.pages.length 2++zem f.pages)
def zbe (l:List Freed):Str:=l.flatMap zh1
def zo0 (next:Int) (l:List Freed):Str:=num next.toNat 4++(num l.length 2++zbe l)
theorem zjr (l:List Int):(zem l).length=4*l.length:=by
 induction l with
 | nil=>rfl
 | cons a r ih=>simp only [zem,List.flatMap_cons,List.length_append,zam,List.length_cons] at ih ⊢;omega
theorem znp (f:Freed):(zh1 f).length=8+4*f.pages.length:=by
 simp only [zh1,List.length_append,zam,zjr];omega
theorem zlp (l:List Int) (j:Nat) (hj:j<l.length):zem (l.take (j+1))=zem (l.take j)++num (l[j]).toNat 4:=by
 rw [List.take_succ_eq_append_getElem hj];simp only [zem,List.flatMap_append,List.flatMap_cons,List.flatMap_nil,List.append_nil]
theorem zkd (l:List Freed) (j:Nat) (hj:j<l.length):zbe (l.take (j+1))=zbe (l.take j)++zh1 l[j]:=by
 rw [List.take_succ_eq_append_getElem hj];simp only [zbe,List.flatMap_append,List.flatMap_cons,List.flatMap_nil,List.append_nil]
theorem zkk (l:List Freed) (j:Nat) (hj:j<l.length):(zbe (l.take j)).length+(zh1 l[j]).length ≤ (zbe l).length:=by
 have:zbe l=zbe (l.take j)++(zh1 l[j]++zbe (l.drop (j+1))):=by
  conv=>lhs;rw [← List.take_append_drop j l,List.drop_eq_getElem_cons hj]
  simp only [zbe,List.flatMap_append,List.flatMap_cons]
 rw [this];simp only [List.length_append];omega
section
variable {n:Nat}{hp:zaa}{b:Nat}{bs:Str}{F:List Nat}{K X:AV → zaa → Prop}
theorem z3k (hn:4 ≤ n) (w:BW hp b bs F) (next:Int) (h0:0 ≤ next) (data:Str) (hl:bs.length+data.length+6 ≤ 1073741824) :
  ∃ hp' F',C n 276 [.agg [i64 next,.str data],.ptr b 0 0] hp=some (.ret (.tup []),hp') ∧ Wrote hp hp' b F F' (bs++zi3 next data):=by
 obtain ⟨m,rfl⟩:=pre1 n
 have:=zcn (n:=m) (c:=cfg0) (args:=[.agg [i64 next,.str data],.ptr b 0 0]) (h:=hp) (R:=fun v hp'=>v=.tup [] ∧ ∃ F',Wrote hp hp' b F F' (bs++zi3 next data)) F276 rfl rfl ?_
 ·obtain ⟨v,hp',e,rfl,F',hW⟩:=this
  exact ⟨hp',F',e,hW⟩
 obtain ⟨w1,e1,ne1⟩:=w.app (.cells 0 (some 292) [i64 next,.str data] 0)
 conv=>whnf
 refine ldI e1 ?_
 conv=>whnf
 refine numC (n:=m) (hp:=hp++[.cells 0 (some 292) [i64 next,.str data] 0]) (by omega) w1 next h0 4 (by omega) (by omega) fun h2 F2 w2=>?_
 have e2:=(w2.keep e1 ne1).1
 have ne2:=(w2.keep e1 ne1).2
 conv=>whnf
 refine ldI e2 ?_
 conv=>whnf
 refine numC (n:=m) (hp:=h2) (by omega) w2.1 _ (by omega) 2 (by omega) (by simp only [List.length_append,zam];omega) fun h3 F3 w3=>?_
 have e3:=(w3.keep e2 ne2).1
 have ne3:=(w3.keep e2 ne2).2
 conv=>whnf
 refine ldI e3 ?_
 conv=>whnf
 refine strC (n:=m) (hp:=h3) (by omega) w3.1 data (by simp only [List.length_append,zam];omega) fun h4 F4 w4=>?_
 have e4:=(w4.keep e3 ne3).1
 conv=>whnf
 refine ⟨?_,?_⟩
 ·conv=>whnf
  exact ldI e4 rfl
 refine ⟨rfl,[],rfl,rfl,F4,?_⟩
 have:=(w2.trans (w3.trans w4)).of_app
 simpa [zi3,List.append_assoc] using this
theorem zv2 {m:Nat}(hm:3 ≤ m) (l:List Int) (sz:Nat) (hz:l≠[] → sz=1) (c:Bool) (hnn:∀ k∈l,0 ≤ k) (w:BW hp b bs F) (hl:bs.length+4*l.length ≤ 1073741824) {Q:Ex → LS → Prop}{s:LS}(v18 v19 v20:AV)
  (hs:LS.sub ⟨[(1,.ptr b 0 0),(18,v18),(19,v19),(20,v20),(34,.lst sz (l.map i64) c),(35,i64 l.length),(36,i64 0)],hp,[]⟩ s)
  (hE:∀ h' F',Wrote hp h' b F F' (bs++zem l) → ∀ L,subL [(1,.ptr b 0 0),(18,v18),(19,v19),(20,v20)] L → Q (.exit 2) ⟨L,h',[]⟩):OkR Tryz.prog (C m) cfg0.inl KK 45 6 (.loop (c277.lp 1)) s Q:=by
 refine za3 (by decide) rfl (α:=Nat × List Nat × zaa) (fun x=>⟨[(1,.ptr b 0 0),(18,v18),(19,v19),(20,v20),(34,.lst sz (l.map i64) c),(35,i64 l.length),(36,i64 x.1)],x.2.2,[]⟩)
  (fun x=>x.1 ≤ l.length ∧ Wrote hp x.2.2 b F x.2.1 (bs++zem (l.take x.1))) (fun x=>l.length-x.1) (0,F,hp) hs ⟨Nat.zero_le _,by simpa [zem] using Wrote.refl w⟩ (by show l.length-0<KK;simp only [KK];omega) ?_
 rintro ⟨j,G,h1⟩ ⟨g1,g2⟩
 simp only at g1 g2
 conv=>whnf
 refine brd (fun a=>?_) (fun a=>?_)
 ·have hj:j<l.length:=by simp only at a;omega
  have hlen:(zem (l.take j)).length=4*j:=by rw [zjr,List.length_take];omega
  conv=>whnf
  refine ixL zeu hj hz ?_
  conv=>whnf
  refine numC (n:=m) (hp:=h1) (by omega) g2.1 l[j] (hnn _ (List.getElem_mem hj)) 4 (by omega) (by simp only [List.length_append,hlen];omega) fun h2 F2 w2=>?_
  conv=>whnf
  refine zJ j ?_
  refine nxI (j+1,F2,h2) ⟨hj,?_⟩ (by simp only;omega) ⟨⟨rfl,rfl,rfl,rfl,rfl,rfl,rfl⟩,rfl,rfl⟩
  have:=g2.trans w2
  rwa [List.append_assoc,← zlp l j hj] at this
 ·have hj:j=l.length:=by simp only at a;omega
  subst hj
  rw [List.take_length] at g2
  conv=>whnf
  exact hE h1 G g2 _ ⟨rfl,rfl,rfl,rfl⟩
theorem z7e (hn:4 ≤ n) (w:BW hp b bs F) (next:Int) (h0:0 ≤ next) (l:List Freed) (sz:Nat) (hz:l≠[] → sz=2) (c:Bool) (hk:∀ f∈l,f.Ok ∧ 0 ≤ f.ver ∧ ∀ k∈f.pages,0 ≤ k) (hl:bs.length+(zbe l).length+l.length+6 ≤ 1073741824) :
  ∃ hp' F',C n 277 [.agg [i64 next,.lst sz (l.map Freed.av) c],.ptr b 0 0] hp=some (.ret (.tup []),hp') ∧ Wrote hp hp' b F F' (bs++zo0 next l):=by
 obtain ⟨m,rfl⟩:=pre1 n
 have:=zcn (n:=m) (c:=cfg0) (args:=[.agg [i64 next,.lst sz (l.map Freed.av) c],.ptr b 0 0]) (h:=hp) (R:=fun v hp'=>v=.tup [] ∧ ∃ F',Wrote hp hp' b F F' (bs++zo0 next l)) F277 rfl rfl ?_
 ·obtain ⟨v,hp',e,rfl,F',hW⟩:=this
  exact ⟨hp',F',e,hW⟩
 obtain ⟨w1,e1,ne1⟩:=w.app (.cells 0 (some 294) [i64 next,.lst sz (l.map Freed.av) c] 0)
 conv=>whnf
 refine ldI e1 ?_
 conv=>whnf
 refine numC (n:=m) (hp:=hp++[.cells 0 (some 294) [i64 next,.lst sz (l.map Freed.av) c] 0]) (by omega) w1 next h0 4 (by omega) (by omega) fun h2 F2 w2=>?_
 have e2:=(w2.keep e1 ne1).1
 have ne2:=(w2.keep e1 ne1).2
 conv=>whnf
 refine ldI e2 ?_
 conv=>whnf
 have el:((l.map Freed.av).length:Int)=(l.length:Int):=by rw [List.length_map]
 rw [el]
 refine numC (n:=m) (hp:=h2) (by omega) w2.1 (l.length:Int) (by omega) 2 (by omega) (by simp only [List.length_append,zam];omega) fun h3 F3 w3=>?_
 have e3:=(w3.keep e2 ne2).1
 have ne3:=(w3.keep e2 ne2).2
 have w03:=(w2.trans w3).of_app
 conv=>whnf
 refine ldI e3 ?_
 conv=>whnf
 refine za3 (by decide) rfl (α:=Nat × List Nat × zaa) (fun x=>⟨[(1,.ptr b 0 0),(18,.lst sz (l.map Freed.av) c),(19,i64 l.length),(20,i64 x.1)],x.2.2,[]⟩)
  (fun x=>x.1 ≤ l.length ∧ Wrote hp x.2.2 b F x.2.1 (bs++(num next.toNat 4++(num l.length 2++zbe (l.take x.1))))) (fun x=>l.length-x.1) (0,F3,h3) ⟨⟨rfl,rfl,lenI _ _,rfl⟩,rfl,rfl⟩
  ⟨Nat.zero_le _,by simpa [zbe,List.append_assoc] using w03⟩ (by show l.length-0<KK;simp only [KK];omega) ?_
 rintro ⟨j,G,h4⟩ ⟨g1,g2⟩
 simp only at g1 g2
 conv=>whnf
 refine brd (fun a=>?_) (fun a=>?_)
 ·have hj:j<l.length:=by simp only at a;omega
  obtain ⟨k1,k2,k3⟩:=hk _ (List.getElem_mem hj)
  have hfl:=zkk l j hj
  have hfb:=znp l[j]
  have g2':=g2.1
  obtain ⟨u0,x0,nx0⟩:=g2'.app (.cells 0 (some 145) l[j].cells 0)
  conv=>whnf
  refine ixL zbb hj hz ?_
  conv=>whnf
  refine stJ (zaf _ _) ?_
  have es:(h4++[AB.cells 0 (some 145) [i64 0,.lst 0 [] true] 0]).set h4.length (.cells 0 (some 145) l[j].cells 0)=h4++[.cells 0 (some 145) l[j].cells 0]:=by simp
  conv=>whnf
  refine ldI (zag _ _ _) ?_
  conv=>whnf
  have u1:BW ((h4++[AB.cells 0 (some 145) [i64 0,.lst 0 [] true] 0]).set h4.length (.cells 0 (some 145) l[j].cells 0)) b _ G:=es ▸ u0
  have x1:((h4++[AB.cells 0 (some 145) [i64 0,.lst 0 [] true] 0]).set h4.length (.cells 0 (some 145) l[j].cells 0))[h4.length]?=some (.cells 0 (some 145) l[j].cells 0):=es ▸ x0
  refine numC (n:=m) (hp:=(h4++[AB.cells 0 (some 145) [i64 0,.lst 0 [] true] 0]).set h4.length (.cells 0 (some 145) l[j].cells 0)) (by omega) u1 l[j].ver k2 6 (by omega) (by simp only [List.length_append,zam];omega) fun h5 F5 w5=>?_
  have x5:=(w5.keep x1 nx0).1
  have nx5:=(w5.keep x1 nx0).2
  have w5':Wrote h4 h5 b G F5 _:=Wrote.of_app (es ▸ w5)
  conv=>whnf
  refine ldI x5 ?_
  conv=>whnf
  have el2:(((l[j]).pages.map i64).length:Int)=((l[j]).pages.length:Int):=by rw [List.length_map]
  rw [el2]
  refine numC (n:=m) (hp:=h5) (by omega) w5.1 ((l[j]).pages.length:Int) (by omega) 2 (by omega) (by simp only [List.length_append,zam];omega) fun h6 F6 w6=>?_
  have x6:=(w6.keep x5 nx5).1
  conv=>whnf
  refine ldI x6 ?_
  conv=>whnf
  refine zv2 (by omega) l[j].pages l[j].sh.sz k1 l[j].sh.c k3 w6.1 (by simp only [List.length_append,zam];omega) (.lst sz (l.map Freed.av) c) (i64 l.length) (i64 j) ⟨⟨rfl,rfl,rfl,rfl,rfl,lenI i64 _,rfl⟩,rfl,rfl⟩ fun h7 F7 w7 L hL=>?_
  refine cutI (by decide) rfl (t:=⟨[(1,.ptr b 0 0),(18,.lst sz (l.map Freed.av) c),(19,i64 l.length),(20,i64 j)],h7,[]⟩) ⟨hL,rfl,rfl⟩ ?_
  conv=>whnf
  refine zJ j ?_
  refine nxI (j+1,F7,h7) ⟨hj,?_⟩ (by simp only;omega) ⟨⟨rfl,rfl,rfl,rfl⟩,rfl,rfl⟩
  have:=g2.trans (w5'.trans (w6.trans w7))
  simp only [zkd l j hj,zh1]
  simpa [List.append_assoc] using this
 ·have hj:j=l.length:=by simp only at a;omega
  subst hj
  rw [List.take_length] at g2
  conv=>whnf
  refine ⟨rfl,[],rfl,rfl,G,?_⟩
  exact g2
end
def ze8 (k:Nat) (s:Str):Option (Str × Str):=if k ≤ s.length then some (s.take k,s.drop k) else none
def pnum (w:Nat) (s:Str):Option (Nat × Str):=if w ≤ s.length then some (zah (s.take w),s.drop w) else none
def psum (s:Str):Option (Dg × Str):=if 16 ≤ s.length then some (dgOf (s.take 16),s.drop 16) else none
def zbn (key:Str) (long:Nat) (s:Str):Option (Entry × Str) :=
 if long=65535 then (pnum 4 s).bind fun o=>(pnum 2 o.2).bind fun l=>(psum l.2).map fun d=>(⟨key,[],o.1,l.1,0,0,d.1⟩,d.2)
 else if long=65534 then (pnum 4 s).bind fun o=>(pnum 4 o.2).bind fun l=>(psum l.2).map fun d=>(⟨key,[],0,0,o.1,l.1,d.1⟩,d.2)
 else (ze8 long s).map fun v=>(⟨key,v.1,0,0,0,0,Dg.zero⟩,v.2)
def zf8 (key:Str) (lv:Int) (s:Str):Option (Entry × Str):=if lv=0 then (pnum 2 s).bind fun l=>zbn key l.1 l.2 else zbn key 65534 s
def keyE (key:Str):Entry:=⟨key,[],0,0,0,0,Dg.zero⟩
def zhv {α:Type}(o:Option (α × Str)) (R:α → Str → CRes → zaa → Prop) (B:zaa → Prop) (r:CRes) (h:zaa):Prop:=match o with
 | some (a,t)=>R a t r h
 | none=>r=.pan badV ∧ B h
section
variable {n:Nat}{hp:zaa}{b E:Nat}{s:Str}{K X:AV → zaa → Prop}
def ContR (hp:zaa) (b E:Nat) (e:Entry) (t:Str) (r:CRes) (h:zaa):Prop:=r=.ret (.tup []) ∧ RDs h b t ∧ h[E]?=some (.cells 0 (some 147) e.cells 0) ∧ Keep hp h [b,E]
theorem zww (hn:3 ≤ n) (r:RDs hp b s) (key:Str) (hE:hp[E]?=some (.cells 0 (some 147) (keyE key).cells 0)) (hne:E≠b) (lv:Int) :
  ∃ r h,C n 256 [.ptr b 0 0,.ptr E 0 0,i64 lv] hp=some (r,h) ∧ zhv (zf8 key lv s) (ContR hp b E) (fun h=>Keep hp h [b,E]) r h:=by
 obtain ⟨m,rfl⟩:=pre1 n
 refine zav (n:=m) (c:=cfg0) (args:=[.ptr b 0 0,.ptr E 0 0,i64 lv]) (h:=hp) F256 rfl rfl ?_
 have kE:∀ {a c:zaa},Keep a c [b] → Keep a c [b,E]:=fun k=>k.mono (by simp)
 have body:∀ (long:Nat) (s1:Str) (h1:zaa) (s':LS),long<65536 → RDs h1 b s1 → Keep hp h1 [b] → LS.sub ⟨[(0,.ptr b 0 0),(1,.ptr E 0 0),(6,i64 long)],h1,[]⟩ s' → OkR Tryz.prog (C m) cfg0.inl KK 52 6 (zfd c256) s' (EndQ Tryz.prog (C m) cfg0.inl [] (zhv (zbn key long s1) (ContR hp b E) (fun h=>Keep hp h [b,E]))):=by
  intro long s1 h1 s' hlong r1 k1 hs'
  have E1:=k1.get hE (by simpa using hne)
  refine cutI (by decide) rfl hs' ?_
  conv=>whnf
  refine bre (fun a=>?_) (fun a=>?_)
  ·have a':long=65535:=by omega
   conv=>whnf
   refine zd8 (n:=m) (hp:=h1) (by omega) r1 4 (by omega) (fun h2 q2 r2 k2=>?_) (fun q=>?_)
   ·conv=>whnf
    refine zd8 (n:=m) (hp:=h2) (by omega) r2 2 (by omega) (fun h3 q3 r3 k3=>?_) (fun q=>?_)
    ·have E3:=k3.get (k2.get E1 (by simpa using hne)) (by simpa using hne)
     conv=>whnf
     refine stJ E3 ?_
     conv=>whnf
     refine stJ (by rw [List.getElem?_set_self (zab E3)]) ?_
     have k13:Keep hp h3 [b,E]:=kE ((k1.trans k2 (fun x hx=>.inl hx)).trans k3 (fun x hx=>.inl hx))
     have k4:Keep hp ((h3.set E (.cells 0 (some 147) (putAt (keyE key).cells (0+2) [i64 (zah (s1.take 4))]) 0)).set E (.cells 0 (some 147) (putAt (putAt (keyE key).cells (0+2) [i64 (zah (s1.take 4))]) (0+3) [i64 (zah ((s1.drop 4).take 2))]) 0)) [b,E]:=(k13.set' (.inl (by simp))).set' (.inl (by simp))
     have r4:RDs ((h3.set E (.cells 0 (some 147) (putAt (keyE key).cells (0+2) [i64 (zah (s1.take 4))]) 0)).set E (.cells 0 (some 147) (putAt (putAt (keyE key).cells (0+2) [i64 (zah (s1.take 4))]) (0+3) [i64 (zah ((s1.drop 4).take 2))]) 0)) b ((s1.drop 4).drop 2):=(r3.stays (Keep.set (F:=[E]) (by simp)) (by simpa using hne.symm)).stays (Keep.set (F:=[E]) (by simp)) (by simpa using hne.symm)
     have E4:((h3.set E (.cells 0 (some 147) (putAt (keyE key).cells (0+2) [i64 (zah (s1.take 4))]) 0)).set E (.cells 0 (some 147) (putAt (putAt (keyE key).cells (0+2) [i64 (zah (s1.take 4))]) (0+3) [i64 (zah ((s1.drop 4).take 2))]) 0))[E]?=some (.cells 0 (some 147) (putAt (putAt (keyE key).cells (0+2) [i64 (zah (s1.take 4))]) (0+3) [i64 (zah ((s1.drop 4).take 2))]) 0):=by rw [List.getElem?_set_self (by simp;exact zab E3)]
     conv=>whnf
     refine rsumC (n:=m) (by omega) r4 (fun h5 q5 r5 k5=>?_) (fun h5 q5 k5=>?_)
     ·have E5:=k5.get E4 (by simpa using hne)
      conv=>whnf
      refine stJ E5 (xs:=(dgOf (((s1.drop 4).drop 2).take 16)).cells) ?_
      refine ⟨[],rfl,?_⟩
      have e:zbn key long s1=some (⟨key,[],(zah (s1.take 4):Nat),(zah ((s1.drop 4).take 2):Nat),0,0,dgOf (((s1.drop 4).drop 2).take 16)⟩,((s1.drop 4).drop 2).drop 16):=by
       simp only [zbn,a',if_true,pnum,if_pos q2,Option.bind_some,if_pos q3,psum,if_pos q5,Option.map_some]
      rw [e]
      refine ⟨rfl,r5.stays (Keep.set (F:=[E]) (by simp)) (by simpa using hne.symm),?_,(k4.trans (kE k5) (fun x hx=>.inl hx)).set' (.inl (by simp))⟩
      rw [List.getElem?_set_self (zab E5)]
      rfl
     ·conv=>whnf
      have e:zbn key long s1=none:=by
       simp only [zbn,a',if_true,pnum,if_pos q2,Option.bind_some,if_pos q3,psum,if_neg (Nat.not_le.2 q5),Option.map_none]
      rw [e]
      exact ⟨rfl,k4.trans (kE k5) (fun x hx=>.inl hx)⟩
    ·conv=>whnf
     have e:zbn key long s1=none:=by
      simp only [zbn,a',if_true,pnum,if_pos q2,Option.bind_some,if_neg (Nat.not_le.2 q),Option.bind_none]
     rw [e]
     exact ⟨rfl,kE (k1.trans k2 (fun x hx=>.inl hx))⟩
   ·conv=>whnf
    have e:zbn key long s1=none:=by
     simp only [zbn,a',if_true,pnum,if_neg (Nat.not_le.2 q),Option.bind_none]
    rw [e]
    exact ⟨rfl,kE k1⟩
  ·have a':long≠65535:=by omega
   conv=>whnf
   refine bre (fun c=>?_) (fun c=>?_)
   ·have c':long=65534:=by omega
    conv=>whnf
    refine zd8 (n:=m) (hp:=h1) (by omega) r1 4 (by omega) (fun h2 q2 r2 k2=>?_) (fun q=>?_)
    ·conv=>whnf
     refine zd8 (n:=m) (hp:=h2) (by omega) r2 4 (by omega) (fun h3 q3 r3 k3=>?_) (fun q=>?_)
     ·have E3:=k3.get (k2.get E1 (by simpa using hne)) (by simpa using hne)
      conv=>whnf
      refine stJ E3 ?_
      conv=>whnf
      refine stJ (by rw [List.getElem?_set_self (zab E3)]) ?_
      have k13:Keep hp h3 [b,E]:=kE ((k1.trans k2 (fun x hx=>.inl hx)).trans k3 (fun x hx=>.inl hx))
      have k4:Keep hp ((h3.set E (.cells 0 (some 147) (putAt (keyE key).cells (0+4) [i64 (zah (s1.take 4))]) 0)).set E (.cells 0 (some 147) (putAt (putAt (keyE key).cells (0+4) [i64 (zah (s1.take 4))]) (0+5) [i64 (zah ((s1.drop 4).take 4))]) 0)) [b,E]:=(k13.set' (.inl (by simp))).set' (.inl (by simp))
      have r4:RDs ((h3.set E (.cells 0 (some 147) (putAt (keyE key).cells (0+4) [i64 (zah (s1.take 4))]) 0)).set E (.cells 0 (some 147) (putAt (putAt (keyE key).cells (0+4) [i64 (zah (s1.take 4))]) (0+5) [i64 (zah ((s1.drop 4).take 4))]) 0)) b ((s1.drop 4).drop 4):=(r3.stays (Keep.set (F:=[E]) (by simp)) (by simpa using hne.symm)).stays (Keep.set (F:=[E]) (by simp)) (by simpa using hne.symm)
      have E4:((h3.set E (.cells 0 (some 147) (putAt (keyE key).cells (0+4) [i64 (zah (s1.take 4))]) 0)).set E (.cells 0 (some 147) (putAt (putAt (keyE key).cells (0+4) [i64 (zah (s1.take 4))]) (0+5) [i64 (zah ((s1.drop 4).take 4))]) 0))[E]?=some (.cells 0 (some 147) (putAt (putAt (keyE key).cells (0+4) [i64 (zah (s1.take 4))]) (0+5) [i64 (zah ((s1.drop 4).take 4))]) 0):=by rw [List.getElem?_set_self (by simp;exact zab E3)]
      conv=>whnf
      refine rsumC (n:=m) (by omega) r4 (fun h5 q5 r5 k5=>?_) (fun h5 q5 k5=>?_)
      ·have E5:=k5.get E4 (by simpa using hne)
       conv=>whnf
       refine stJ E5 (xs:=(dgOf (((s1.drop 4).drop 4).take 16)).cells) ?_
       refine ⟨[],rfl,?_⟩
       have e:zbn key long s1=some (⟨key,[],0,0,(zah (s1.take 4):Nat),(zah ((s1.drop 4).take 4):Nat),dgOf (((s1.drop 4).drop 4).take 16)⟩,((s1.drop 4).drop 4).drop 16):=by
        simp only [zbn,c',show ¬ (65534:Nat)=65535 by decide,if_true,if_false,pnum,if_pos q2,Option.bind_some,if_pos q3,psum,if_pos q5,Option.map_some]
       rw [e]
       refine ⟨rfl,r5.stays (Keep.set (F:=[E]) (by simp)) (by simpa using hne.symm),?_,(k4.trans (kE k5) (fun x hx=>.inl hx)).set' (.inl (by simp))⟩
       rw [List.getElem?_set_self (zab E5)]
       rfl
      ·conv=>whnf
       have e:zbn key long s1=none:=by
        simp only [zbn,c',show ¬ (65534:Nat)=65535 by decide,if_true,if_false,pnum,if_pos q2,Option.bind_some,if_pos q3,psum,if_neg (Nat.not_le.2 q5),Option.map_none]
       rw [e]
       exact ⟨rfl,k4.trans (kE k5) (fun x hx=>.inl hx)⟩
     ·conv=>whnf
      have e:zbn key long s1=none:=by
       simp only [zbn,c',show ¬ (65534:Nat)=65535 by decide,if_true,if_false,pnum,if_pos q2,Option.bind_some,if_neg (Nat.not_le.2 q),Option.bind_none]
      rw [e]
      exact ⟨rfl,kE (k1.trans k2 (fun x hx=>.inl hx))⟩
    ·conv=>whnf
     have e:zbn key long s1=none:=by
      simp only [zbn,c',show ¬ (65534:Nat)=65535 by decide,if_true,if_false,pnum,if_neg (Nat.not_le.2 q),Option.bind_none]
     rw [e]
     exact ⟨rfl,kE k1⟩
   ·have c':long≠65534:=by omega
    conv=>whnf
    refine zxj (n:=m) (hp:=h1) (by omega) r1 long (by omega) (fun h2 q2 r2 k2=>?_) (fun q=>?_)
    ·have E2:=k2.get E1 (by simpa using hne)
     conv=>whnf
     refine stJ E2 ?_
     refine ⟨[],rfl,?_⟩
     have e:zbn key long s1=some (⟨key,s1.take long,0,0,0,0,Dg.zero⟩,s1.drop long):=by
      simp only [zbn,a',c',if_false,ze8,if_pos q2,Option.map_some]
     rw [e]
     refine ⟨rfl,r2.stays (Keep.set (F:=[E]) (by simp)) (by simpa using hne.symm),?_,(kE (k1.trans k2 (fun x hx=>.inl hx))).set' (.inl (by simp))⟩
     rw [List.getElem?_set_self (zab E2)]
     rfl
    ·conv=>whnf
     have e:zbn key long s1=none:=by
      simp only [zbn,a',c',if_false,ze8,if_neg (Nat.not_le.2 q),Option.map_none]
     rw [e]
     exact ⟨rfl,kE k1⟩
 conv=>whnf
 refine bre (fun a=>?_) (fun a=>?_)
 ·subst a
  conv=>whnf
  refine zd8 (n:=m) (hp:=hp) (by omega) r 2 (by omega) (fun h2 q2 r2 k2=>?_) (fun q=>?_)
  ·have e:zf8 key 0 s=zbn key (zah (s.take 2)) (s.drop 2):=by simp only [zf8,if_true,pnum,if_pos q2,Option.bind_some]
   rw [e]
   conv=>whnf
   exact body _ _ h2 _ (Nat.lt_of_lt_of_eq (zcm 2 _ (by rw [List.length_take];omega)) (by decide)) r2 k2 ⟨⟨rfl,rfl,rfl⟩,rfl,rfl⟩
  ·have e:zf8 key 0 s=none:=by simp only [zf8,if_true,pnum,if_neg (Nat.not_le.2 q),Option.bind_none]
   rw [e]
   conv=>whnf
   exact ⟨rfl,Keep.refl _ _⟩
 ·have e:zf8 key lv s=zbn key 65534 s:=by simp only [zf8,a,if_false]
  rw [e]
  conv=>whnf
  exact body 65534 s hp _ (by decide) r (Keep.refl _ _) ⟨⟨rfl,rfl,rfl⟩,rfl,rfl⟩
end
def c231:RC :=
 (.seq (.ops [(oP 4 (.mv (.c .nili)))])
 (.seq (.seq (.ops [(mV 13 1)])
 (.block 0
 (.seq (.seq (.ops [(oJ 15 .eql 13 1),(mV 14 15)])
 (.cond (.t 14)
 .skip
 (.ops [(oJ 16 .eql 13 2),(mV 14 16)])))
 (.cond (.t 14)
 (.cut (.seq (.ops [(mV 17 0),(oP 18 (.callF 229 [(.t 17),(.c (.int .i64 1))])),(mV 19 0),(oP 20 (.callF 229 [(.t 19),(.c (.int .i64 1))])),(oP 21 (.build [(.int .i64 0),(.int .i64 0),(.bool false),(.lst 0 [] true)] [(0,1,(.t 18)),(1,1,(.t 20))])),(oP 5 (.alloc 296 [(.int .i64 0),(.int .i64 0),(.bool false),(.lst 0 [] true)])),(oT 4 5 21)])
 (.seq (.ops [(mV 22 0),(oP 23 (.callF 229 [(.t 22),(.c (.int .i64 1))])),(oJ 24 .eql 23 1),(oC 25 2 5),(oT 1 25 24)])
 (.seq (.ops [(mV 26 0),(oP 27 (.callF 229 [(.t 26),(.c (.int .i64 1))])),(mV 6 27)])
 (.seq (.ops [(mV 28 0),(oP 29 (.callF 229 [(.t 28),(.c (.int .i64 2))])),(mV 7 29)])
 (.seq (.ops [(mV 30 0),(mV 31 6),(oW 32 249 30 31),(mV 8 32)])
 (.seq (.ops [(mV 33 0),(mV 34 7),(oP 35 (.bin .mul (.c (.int .i64 2)) (.t 34))),(oW 36 249 33 35)])
 (.seq (.seq (.ops [(mV 37 0),(mV 38 7),(oC 39 1 5),(oA 40 39),(mV 41 8),(oP 42 (.callF 250 [(.t 37),(.t 38),(.t 40),(.t 41)]))])
 (.block 1
 (.rangeF (.t 42) [43]
 (.ops [(oP 9 (.alloc 147 [(.str []),(.str []),(.int .i64 0),(.int .i64 0),(.int .i64 0),(.int .i64 0),(.int .u8 0),(.int .u8 0),(.int .u8 0),(.int .u8 0),(.int .u8 0),(.int .u8 0),(.int .u8 0),(.int .u8 0),(.int .u8 0),(.int .u8 0),(.int .u8 0),(.int .u8 0),(.int .u8 0),(.int .u8 0),(.int .u8 0),(.int .u8 0)])),(oT 22 9 43)])
 (.block 2
 (.ops [(oC 44 3 5),(oA 45 44),(oB 46 22 9),(oP 47 (.mkLst 22 true 1 [(.str []),(.str []),(.int .i64 0),(.int .i64 0),(.int .i64 0),(.int .i64 0),(.int .u8 0),(.int .u8 0),(.int .u8 0),(.int .u8 0),(.int .u8 0),(.int .u8 0),(.int .u8 0),(.int .u8 0),(.int .u8 0),(.int .u8 0),(.int .u8 0),(.int .u8 0),(.int .u8 0),(.int .u8 0),(.int .u8 0),(.int .u8 0)] [(0,22,(.t 46))])),(oP 48 (.app 147 22 (.t 45) (.t 47))),(oC 49 3 5),(oT 1 49 48)])))))
 (.cut (.seq (.ops [(oB 50 4 5),(oP 51 (.mkIfc 296 (.t 50))),(mV 4 51)])
 .ret))))))))))
 (.seq (.ops [(oJ 53 .eql 13 3),(mV 52 53)])
 (.cond (.t 52)
 (.seq (.ops [(mV 54 0),(oP 55 (.callF 229 [(.t 54),(.c (.int .i64 4))])),(oP 56 (.build [(.int .i64 0),(.str [])] [(0,1,(.t 55))])),(oP 10 (.alloc 292 [(.int .i64 0),(.str [])])),(oT 2 10 56)])
 (.seq (.ops [(mV 57 0),(mV 58 0),(oP 59 (.callF 229 [(.t 58),(.c (.int .i64 2))])),(oW 60 249 57 59),(oC 61 1 10),(oT 1 61 60)])
 (.seq (.ops [(oB 62 2 10),(oP 63 (.mkIfc 292 (.t 62))),(mV 4 63)])
 .ret)))
 .skip))))))
 (.cut (.seq (.ops [(mV 64 0),(oP 65 (.callF 229 [(.t 64),(.c (.int .i64 4))])),(oP 66 (.build [(.int .i64 0),(.lst 0 [] true)] [(0,1,(.t 65))])),(oP 11 (.alloc 294 [(.int .i64 0),(.lst 0 [] true)])),(oT 2 11 66)])
 (.seq (.seq (.ops [(mV 67 0),(oP 68 (.callF 229 [(.t 67),(.c (.int .i64 2))])),(oH 69 0)])
 (.block 3
 (.loop
 (.seq (.ops [(oI 70 .lss 69 68)])
 (.seq (.cond (.t 70)
 .skip
 (.exit 3))
 (.seq (.block 4
 (.seq (.ops [(mV 71 0),(oP 72 (.callF 229 [(.t 71),(.c (.int .i64 6))])),(oP 73 (.build [(.int .i64 0),(.lst 0 [] true)] [(0,1,(.t 72))])),(oP 12 (.alloc 145 [(.int .i64 0),(.lst 0 [] true)])),(oT 2 12 73)])
 (.seq (.seq (.ops [(mV 74 0),(oP 75 (.callF 229 [(.t 74),(.c (.int .i64 2))])),(oH 76 0)])
 (.block 5
 (.loop
 (.seq (.ops [(oI 77 .lss 76 75)])
 (.seq (.cond (.t 77)
 .skip
 (.exit 5))
 (.seq (.block 6
 (.draw [((oC 78 1 12),0),((oA 79 78),1),((mV 80 0),0),((oP 81 (.callF 229 [(.t 80),(.c (.int .i64 4))])),2),((oP 82 (.mkLst 1 false 1 [(.int .i64 0)] [(0,1,(.t 81))])),0),((oP 83 (.app 3 1 (.t 79) (.t 82))),3),((oC 84 1 12),0),((oT 1 84 83),2)]))
 (.ops [(oJ 85 .add 76 1),(mV 76 85)])))))))
 (.cut (.ops [(oC 86 1 11),(oA 87 86),(oB 88 2 12),(oP 89 (.mkLst 2 true 1 [(.int .i64 0),(.lst 0 [] true)] [(0,2,(.t 88))])),(oP 90 (.app 145 2 (.t 87) (.t 89))),(oC 91 1 11),(oT 1 91 90)])))))
 (.cut (.ops [(oJ 92 .add 69 1),(mV 69 92)]))))))))
 (.cut (.seq (.ops [(oB 93 2 11),(oP 94 (.mkIfc 294 (.t 93))),(mV 4 94)])
 .ret)))))))
theorem F231:FI 231 2 95 7 [.tmp 4] c231:=mkF Tryz.f231 Tryz.func231
def GBuf (el:TypeId) (sz:Nat) (hp:zaa) (X:Nat) (L:AV) (rows:List (List AV)) (G:List Nat):Prop :=
 (∀ r∈rows,r.length=sz ∧ r.all AV.scal=true) ∧ ((L=.lst 0 [] true ∧ rows=[] ∧ G=[X]) ∨ (∃ eb ver frz,L=.sl sz eb ver 0 rows.length ∧ hp[eb]?=some (.cells ver (some el) rows.flatten frz) ∧ X≠eb ∧ frz ≤ rows.flatten.length ∧ G=[X,eb]))
theorem zih {sz:Nat}:∀ {rows:List (List AV)},(∀ r∈rows,r.length=sz ∧ r.all AV.scal=true) → rows.flatten.length=rows.length*sz ∧ rows.flatten.all AV.scal=true
 | [],_=>by simp
 | a::r,h=>by
  have h1:=zih fun x hx=>h x (List.mem_cons_of_mem _ hx)
  have h2:=h a (List.mem_cons_self ..)
  simp only [List.flatten_cons,List.length_append,List.length_cons,List.all_append,h1,h2,Bool.and_self,and_true]
  rw [Nat.add_mul];omega
theorem GBuf.mem {el sz:Nat}{hp:zaa}{X:Nat}{L:AV}{rows:List (List AV)}{G:List Nat}(h:GBuf el sz hp X L rows G):X∈G:=by
 rcases h.2 with ⟨_,_,rfl⟩ | ⟨eb,ver,frz,_,h2,_,_,rfl⟩<;>simp
theorem GBuf.lt {el sz:Nat}{hp:zaa}{X:Nat}{L:AV}{rows:List (List AV)}{G:List Nat}(h:GBuf el sz hp X L rows G) (hX:X<hp.length):∀ x∈G,x<hp.length:=by
 intro x hx
 rcases h.2 with ⟨_,_,rfl⟩ | ⟨eb,ver,frz,_,h2,_,_,rfl⟩
 ·simp at hx;omega
 ·simp at hx
  rcases hx with rfl | rfl
  ·exact hX
  ·exact zab h2
theorem GBuf.stays {el sz:Nat}{hp hp':zaa}{X:Nat}{L:AV}{rows:List (List AV)}{G:List Nat}(h:GBuf el sz hp X L rows G) (e:∀ x∈G,x≠X → hp'[x]?=hp[x]?):GBuf el sz hp' X L rows G:=by
 refine ⟨h.1,?_⟩
 rcases h.2 with h | ⟨eb,ver,frz,h1,h2,h3,h4,rfl⟩
 ·exact .inl h
 ·exact .inr ⟨eb,ver,frz,h1,by rw [e eb (by simp) (Ne.symm h3)];exact h2,h3,h4,rfl⟩
theorem zhj {el sz:Nat}{hp:zaa}{X:Nat}{L x:AV}{rows:List (List AV)}{row:List AV}{G:List Nat}(hB:GBuf el sz hp X L rows G) (hX:X<hp.length) (h1:lenA x=some 1) (h2:zbc hp sz 1 x=some row) (hr:row.length=sz ∧ row.all AV.scal=true) (hl:rows.length+1 ≤ 1073741824) :
  ∃ v oh,appR hp el sz L x=some (v,oh) ∧ ∃ hp' G',hp'=oh.getD hp ∧ hp'[X]?=hp[X]? ∧ GBuf el sz hp' X v (rows++[row]) G' ∧ Keep hp hp' G ∧ (∀ x∈G',x∈G ∨ hp.length ≤ x) ∧ (∃ xs,v.cells?=some xs ∧ xs=[v]):=by
 have hrows:∀ r∈rows++[row],r.length=sz ∧ r.all AV.scal=true:=by
  intro r hm
  simp at hm
  rcases hm with hm | rfl
  ·exact hB.1 r hm
  ·exact hr
 unfold appR
 rw [h1]
 simp only
 rw [h2]
 simp only [hr.2,Bool.not_true,Bool.false_eq_true,if_false]
 rcases hB.2 with ⟨rfl,rfl,rfl⟩ | ⟨bb,ver,frz,rfl,g1,g2,g3,rfl⟩
 ·simp only
  rw [if_neg (by decide)]
  have h3:zbc hp sz ([]:List AV).length (.lst 0 [] true)=some []:=by
   unfold zbc
   simp
  rw [h3]
  simp only [List.length_nil,Nat.zero_add]
  rw [if_pos ⟨by decide,rfl⟩]
  refine ⟨_,_,rfl,_,[X,hp.length],rfl,?_,⟨hrows,.inr ⟨hp.length,0,0,rfl,?_,by omega,Nat.zero_le _,rfl⟩⟩,Keep.app _ _ _,?_,_,rfl,rfl⟩
  ·simp only [Option.getD_some];rw [List.getElem?_append_left hX]
  ·simp
  ·intro x hx;simp at hx;rcases hx with rfl | rfl<;>simp
 ·have hf:=zih hB.1
  simp only
  rw [g1]
  simp only
  rw [if_pos ⟨.inl trivial,trivial,trivial,trivial,hf.1.symm,hf.2,hl,g3⟩,if_neg (by decide)]
  refine ⟨_,_,rfl,_,[X,bb],rfl,?_,⟨hrows,.inr ⟨bb,ver+1,frz,by simp,?_,g2,by rw [List.flatten_append,List.length_append];omega,rfl⟩⟩,Keep.set (by simp),fun x hx=>.inl hx,_,rfl,rfl⟩
  ·simp only [Option.getD_some];rw [List.getElem?_set_ne (fun e=>g2 e.symm)]
  ·simp only [Option.getD_some];rw [List.getElem?_set_self (zab g1)];simp
theorem zjc (h:zaa) {sz:Nat}{row:List AV}(hr:row.length=sz) (hs:AV.cells? (.agg row)=some row):zbc h sz 1 (.lst sz [.agg row] true)=some row:=by
 unfold zbc
 simp only
 rw [if_pos ⟨Nat.le_refl _,.inl trivial⟩]
 simp [hs,hr]
theorem zz4 (b:Nat):cfg0.inl (Tryz.prog.funcs.size+b)=true:=by
 have h1:Tryz.prog.funcs.size=284:=by kernel_rfl
 have h:∀ f,284 ≤ f → cfg0.inl f=true:=fun f hf=>by
  show (inlL.contains f||decide (284 ≤ f))=true
  simp [hf]
 exact h _ (Nat.le_trans (Nat.le_of_eq h1.symm) (Nat.le_add_right _ _))
structure XS (hp:zaa) (X Bk:Nat) (tree lv:Int) (top:Bool) (lp:AB) (es:List Entry) (G:List Nat):Prop where
 node:∃ L,hp[X]?=some (.cells 0 (some 296) [i64 tree,i64 lv,.bool top,L] 0) ∧ GBuf 147 22 hp X L (es.map Entry.cells) G
 loop:hp[Bk]?=some lp
 out:Bk ∉ G
theorem XS.lt {hp:zaa}{X Bk:Nat}{tree lv:Int}{top:Bool}{lp:AB}{es:List Entry}{G:List Nat}(h:XS hp X Bk tree lv top lp es G):∀ x∈G,x<hp.length:=by
 obtain ⟨L,h1,h2⟩:=h.node
 exact h2.lt (zab h1)
theorem XS.stays {hp hp':zaa}{X Bk:Nat}{tree lv:Int}{top:Bool}{lp:AB}{es:List Entry}{G F:List Nat}(h:XS hp X Bk tree lv top lp es G) (k:Keep hp hp' F) (hG:∀ x∈G,x ∉ F) (hB:Bk ∉ F):XS hp' X Bk tree lv top lp es G:=by
 have hl:=h.lt
 obtain ⟨⟨L,h1,h2⟩,h3,h4⟩:=h
 exact ⟨⟨L,k.get h1 (hG _ h2.mem),h2.stays fun x hx _=>k.2 x (hl x hx) (hG x hx)⟩,k.get h3 hB,h4⟩
section
variable {n:Nat}{hp:zaa}
abbrev rngB:RC × RC:=match c231.rngs with
 | p::_=>p
 | []=>(.skip,.skip)
theorem z1z (hn:1 ≤ n) {X Bk:Nat}{tree lv:Int}{top:Bool}{es:List Entry}{G:List Nat}{tms:Tm}{qs:Array Tmp}{ca cb:Code}{db:Nat}(x:XS hp X Bk tree lv top (.loop false tms qs ca cb db) es G)
  (H:HasL 95 7 [(5,.ptr X 0 0)] tms) (hq:qs.toList=[43]) (hca:resC Tryz.prog cfg0.inl ca=rngB.1.erase) (hcb:resC Tryz.prog cfg0.inl cb=rngB.2.erase) (hl:es.length+1 ≤ 1073741824) (e:Entry) :
  ∃ hp' G',C n (Tryz.prog.funcs.size+Bk) [e.av] hp=some (.ret (.bool true),hp') ∧ XS hp' X Bk tree lv top (.loop false tms qs ca cb db) (es++[e]) G' ∧ Keep hp hp' G ∧ ∀ x∈G',x∈G ∨ hp.length ≤ x:=by
 obtain ⟨m,rfl⟩:=pre1 n
 have hG:=x.lt
 obtain ⟨⟨L,x1,x2⟩,x3,x4⟩:=x
 have hXl:=zab x1
 have hBX:Bk≠X:=by rintro rfl;rw [x1] at x3;cases x3
 have hBl:=zab x3
 -- the memory in a round
 have es1:(hp++[AB.cells 0 (some 147) (keyE []).cells 0]).set hp.length (.cells 0 (some 147) e.cells 0)=hp++[.cells 0 (some 147) e.cells 0]:=by simp
 have key:=yieldI (P:=Tryz.prog) (call:=C m) (inl:=cfg0.inl) (k:=KK) (n:=95) (d:=7) (ra:=rngB.1) (rb:=rngB.2) rfl rfl ca cb hca hcb rfl rfl (by decide) (b:=Bk) (args:=[e.av]) (tms:=tms) (qs:=qs) (db:=db) (h:=hp)
  (R:=fun hp'=>∃ G',XS hp' X Bk tree lv top (.loop false tms qs ca cb db) (es++[e]) G' ∧ Keep hp hp' G ∧ ∀ x∈G',x∈G ∨ hp.length ≤ x) H x3 (by rw [← Array.length_toList,hq];rfl) (by rw [hq];rfl) ?_
 ·obtain ⟨hp',h1,G',h2,h3,h4⟩:=key
  exact ⟨hp',G',by rw [show C (m+1) (Tryz.prog.funcs.size+Bk) [e.av] hp=_ from yieldC (zz4 Bk)];exact h1,h2,h3,h4⟩
 rw [hq]
 conv=>whnf
 refine stJ (zaf _ _) ?_
 refine ⟨rfl,rfl,?_,?_⟩
 ·show ((hp++[AB.cells 0 (some 147) (keyE []).cells 0]).set hp.length (.cells 0 (some 147) e.cells 0))[Bk]?=_
  rw [es1,List.getElem?_append_left hBl];exact x3
 -- what the round does
 have hB2:Bk<(hp++[AB.cells 0 (some 147) e.cells 0]).length:=by simp;omega
 have x1':((hp++[AB.cells 0 (some 147) e.cells 0]).set Bk (.loop true tms qs ca cb db))[X]?=some (.cells 0 (some 296) [i64 tree,i64 lv,.bool top,L] 0):=by
  rw [List.getElem?_set_ne hBX,List.getElem?_append_left hXl];exact x1
 have xe:((hp++[AB.cells 0 (some 147) e.cells 0]).set Bk (.loop true tms qs ca cb db))[hp.length]?=some (.cells 0 (some 147) e.cells 0):=by
  rw [List.getElem?_set_ne (by omega)];simp
 have xb:((hp++[AB.cells 0 (some 147) e.cells 0]).set Bk (.loop true tms qs ca cb db))[Bk]?=some (.loop true tms qs ca cb db):=by
  rw [List.getElem?_set_self hB2]
 have x2':GBuf 147 22 ((hp++[AB.cells 0 (some 147) e.cells 0]).set Bk (.loop true tms qs ca cb db)) X L (es.map Entry.cells) G:=x2.stays fun y hy _=>by
  rw [List.getElem?_set_ne (by rintro rfl;exact x4 hy),List.getElem?_append_left (hG y hy)]
 obtain ⟨v,oh,ea,hp2,G',rfl,g1,g2,g3,g4,xs,g5,rfl⟩:=zhj (x:=.lst 22 [.agg e.cells] true) x2' (zab x1') rfl (zjc _ rfl rfl) ⟨rfl,rfl⟩ (by simpa using hl)
 have f1:=g1.trans x1'
 have fin:∀ (L':LT),(fun ex s2=>ex=Ex.norm ∧ s2.df=[] ∧ s2.h[Bk]?=some (.loop true tms qs ca cb db) ∧ ∃ G',XS (s2.h.set Bk (.loop false tms qs ca cb db)) X Bk tree lv top (.loop false tms qs ca cb db) (es++[e]) G' ∧ Keep hp (s2.h.set Bk (.loop false tms qs ca cb db)) G ∧ ∀ x∈G',x∈G ∨ hp.length ≤ x) Ex.norm
   (⟨L',(oh.getD ((hp++[AB.cells 0 (some 147) e.cells 0]).set Bk (.loop true tms qs ca cb db))).set X (.cells 0 (some 296) (putAt [i64 tree,i64 lv,.bool top,L] 3 [v]) 0),[]⟩ : LS):=by
  intro L'
  have y1:=g3.get xb (fun q=>x4 (by simpa using q))
  have hBG':Bk ∉ G':=fun q=>by
   rcases g4 Bk q with q | q
   ·exact x4 q
   ·simp at q;omega
  have y2:((oh.getD ((hp++[AB.cells 0 (some 147) e.cells 0]).set Bk (.loop true tms qs ca cb db))).set X (.cells 0 (some 296) (putAt [i64 tree,i64 lv,.bool top,L] 3 [v]) 0))[Bk]?=some (.loop true tms qs ca cb db):=by
   rw [List.getElem?_set_ne (Ne.symm hBX)];exact y1
  refine ⟨rfl,rfl,y2,G',⟨⟨v,?_,?_⟩,?_,hBG'⟩,⟨?_,fun y hy hn=>?_⟩,fun y hy=>(g4 y hy).imp id fun q=>by simp at q;omega⟩
  ·rw [List.getElem?_set_ne hBX,List.getElem?_set_self (zab f1)];rfl
  ·rw [List.map_append]
   refine g2.stays fun y hy hyX=>?_
   rw [List.getElem?_set_ne (by rintro rfl;exact hBG' hy),List.getElem?_set_ne (Ne.symm hyX)]
  ·rw [List.getElem?_set_self (zab y2)]
  ·have:=g3.1
   simp at this ⊢
   omega
  ·have hyX:y≠X:=by rintro rfl;exact hn x2.mem
   by_cases hyB:y=Bk
   ·subst hyB
    rw [List.getElem?_set_self (zab y2)];exact x3.symm
   ·rw [List.getElem?_set_ne (Ne.symm hyB),List.getElem?_set_ne (Ne.symm hyX),g3.2 y (by simp;omega) hn,List.getElem?_set_ne (Ne.symm hyB),List.getElem?_append_left hy]
 show Wp _ _ _ _ _ _ _ ⟨_,((hp++[AB.cells 0 (some 147) (keyE []).cells 0]).set hp.length (.cells 0 (some 147) e.cells 0)).set Bk (.loop true tms qs ca cb db),[]⟩ _
 rw [es1]
 conv=>whnf
 refine ldI x1' ?_
 conv=>whnf
 refine ldI xe ?_
 conv=>whnf
 refine ⟨rfl,?_⟩
 refine ⟨_,ea,?_⟩
 cases oh with
 | none =>
  conv=>whnf
  refine stI x1' g5 (by rfl) (by rfl) (by rfl) ?_
  exact fin _
 | some h2 =>
  conv=>whnf
  refine stI f1 g5 (by rfl) (by rfl) (by rfl) ?_
  exact fin _
end
def preK (pre:Str) (lv:Int) (i:Nat):Str:=if 0<i ∨ lv=0 then pre else []
def pent (pre:Str) (lv:Int) (i:Nat) (s:Str):Option (Entry × Str):=(pnum 1 s).bind fun k=>(ze8 k.1 k.2).bind fun t=>zf8 (preK pre lv i++t.1) lv t.2
def ze9 (pre:Str) (lv:Int):Nat → Nat → Str → Option (List Entry × Str)
 | 0,_,s=>some ([],s)
 | c+1,i,s=>(pent pre lv i s).bind fun e=>(ze9 pre lv c (i+1) e.2).map fun r=>(e.1::r.1,r.2)
section
variable {n:Nat}{hp:zaa}{b:Nat}{s:Str}
structure Clo (hp:zaa) (N R LV PF b:Nat) (k:Nat) (lv:Int) (pre:Str):Prop where
 cn:hp[N]?=some (.cells 0 (some 3) [i64 k] 0)
 cr:hp[R]?=some (.cells 0 (some 308) [.ptr b 0 0] 0)
 cl:hp[LV]?=some (.cells 0 (some 3) [i64 lv] 0)
 cp:hp[PF]?=some (.cells 0 (some 9) [.str pre] 0)
theorem Clo.stays {hp hp':zaa}{N R LV PF b:Nat}{k:Nat}{lv:Int}{pre:Str}{F:List Nat}(c:Clo hp N R LV PF b k lv pre) (h:Keep hp hp' F) (hn:N ∉ F ∧ R ∉ F ∧ LV ∉ F ∧ PF ∉ F):Clo hp' N R LV PF b k lv pre :=
 ⟨h.get c.cn hn.1,h.get c.cr hn.2.1,h.get c.cl hn.2.2.1,h.get c.cp hn.2.2.2⟩
def EntsR (hp:zaa) (b X Bk:Nat) (tree lv:Int) (top:Bool) (lp:AB) (es0:List Entry) (G:List Nat) (es:List Entry) (t:Str) (r:CRes) (h:zaa):Prop :=
 r=.ret (.tup []) ∧ RDs h b t ∧ ∃ G',XS h X Bk tree lv top lp (es0++es) G' ∧ Keep hp h (b::G) ∧ ∀ x∈G',x∈G ∨ hp.length ≤ x
theorem zs2 (hn:4 ≤ n) {X Bk N R LV PF:Nat}{tree lv:Int}{top:Bool}{G:List Nat}{tms:Tm}{qs:Array Tmp}{ca cb:Code}{db:Nat}{k:Nat}{pre:Str}(x:XS hp X Bk tree lv top (.loop false tms qs ca cb db) [] G)
  (H:HasL 95 7 [(5,.ptr X 0 0)] tms) (hq:qs.toList=[43]) (hca:resC Tryz.prog cfg0.inl ca=rngB.1.erase) (hcb:resC Tryz.prog cfg0.inl cb=rngB.2.erase) (r:RDs hp b s) (c:Clo hp N R LV PF b k lv pre) (hk:k<65536) (hpre:pre.length<1073741824)
  (hbG:b ∉ G) (hcG:N ∉ G ∧ R ∉ G ∧ LV ∉ G ∧ PF ∉ G) :
  ∃ r h,C n 255 [.fn (.yield Bk) [] [],.ptr N 0 0,.ptr R 0 0,.ptr LV 0 0,.ptr PF 0 0] hp=some (r,h) ∧ zhv (ze9 pre lv k 0 s) (EntsR hp b X Bk tree lv top (.loop false tms qs ca cb db) [] G) (fun h=>Keep hp h (b::G)) r h:=by
 obtain ⟨m,rfl⟩:=pre1 n
 refine zav (n:=m) (c:=cfg0) F255 rfl rfl ?_
 conv=>whnf
 refine ldI c.cn ?_
 conv=>whnf
 have hbl:=r.lt
 have hBk:Bk≠b:=by
  rintro rfl
  obtain ⟨all,a,q,_⟩:=r
  rw [x.loop] at q;cases q
 have cb':N≠b ∧ R≠b ∧ LV≠b ∧ PF≠b:=by
  obtain ⟨all,a,q,_⟩:=r
  refine ⟨?_,?_,?_,?_⟩
  ·rintro rfl;have:=c.cn;rw [q] at this;cases this
  ·rintro rfl;have:=c.cr;rw [q] at this;cases this
  ·rintro rfl;have:=c.cl;rw [q] at this;cases this
  ·rintro rfl;have:=c.cp;rw [q] at this;cases this
 refine za3 (by decide) rfl (α:=Nat × List Entry × Str × List Nat × zaa) (fun y=>⟨[(0,.fn (.yield Bk) [] []),(1,.ptr N 0 0),(2,.ptr R 0 0),(3,.ptr LV 0 0),(4,.ptr PF 0 0),(9,i64 k),(10,i64 y.1)],y.2.2.2.2,[]⟩)
  (fun y=>y.1 ≤ k ∧ XS y.2.2.2.2 X Bk tree lv top (.loop false tms qs ca cb db) y.2.1 y.2.2.2.1 ∧ RDs y.2.2.2.2 b y.2.2.1 ∧ Keep hp y.2.2.2.2 (b::G) ∧ (∀ z∈y.2.2.2.1,z∈G ∨ hp.length ≤ z) ∧ y.2.1.length=y.1 ∧ ze9 pre lv k 0 s=(ze9 pre lv (k-y.1) y.1 y.2.2.1).map fun q=>(y.2.1++q.1,q.2))
  (fun y=>k-y.1) (0,[],s,G,hp) ⟨⟨rfl,rfl,rfl,rfl,rfl,rfl,rfl⟩,rfl,rfl⟩ ⟨Nat.zero_le _,x,r,Keep.refl _ _,fun z hz=>.inl hz,rfl,by simp⟩ (by show k-0<KK;simp only [KK];omega) ?_
 rintro ⟨j,es,s1,G1,h1⟩ ⟨g1,g2,g3,g4,g5,g6,g7⟩
 simp only at g1 g2 g3 g4 g5 g6 g7
 have cN:∀ {z},z<hp.length → z ∉ G → z ∉ G1:=fun hz hn q=>by
  rcases g5 _ q with q | q
  ·exact hn q
  ·omega
 have c1:=c.stays g4 (by simp only [List.mem_cons,not_or];exact ⟨⟨cb'.1,hcG.1⟩,⟨cb'.2.1,hcG.2.1⟩,⟨cb'.2.2.1,hcG.2.2.1⟩,⟨cb'.2.2.2,hcG.2.2.2⟩⟩)
 have nG1:N ∉ G1 ∧ R ∉ G1 ∧ LV ∉ G1 ∧ PF ∉ G1:=⟨cN (zab c.cn) hcG.1,cN (zab c.cr) hcG.2.1,cN (zab c.cl) hcG.2.2.1,cN (zab c.cp) hcG.2.2.2⟩
 have bG1:b ∉ G1:=cN hbl hbG
 conv=>whnf
 refine brd (fun a=>?_) (fun a=>?_)
 ·have hj:j<k:=by simp only at a;omega
  obtain ⟨d,hd⟩ : ∃ d,k-j=d+1:=⟨k-j-1,by omega⟩
  have hd':k-(j+1)=d:=by omega
  rw [hd] at g7
  simp only [ze9] at g7
  have pe:pent pre lv j s1=none → ze9 pre lv k 0 s=none:=fun q=>by rw [g7,q];rfl
  -- the entry's own memory
  have kE:Keep h1 (h1++[AB.cells 0 (some 147) (keyE []).cells 0]) []:=Keep.app h1 _ []
  have eE:(h1++[AB.cells 0 (some 147) (keyE []).cells 0])[h1.length]?=some (.cells 0 (some 147) (keyE []).cells 0):=zaf _ _
  have bE:h1.length≠b:=by have:=g3.lt;omega
  have c2:=c1.stays kE (by simp)
  have r2:=g3.stays kE (by simp)
  have x2:=g2.stays kE (by simp) (by simp)
  have k2:Keep hp (h1++[AB.cells 0 (some 147) (keyE []).cells 0]) (b::G):=g4.trans kE (by simp)
  conv=>whnf
  refine ldI c2.cr ?_
  conv=>whnf
  refine ldI c2.cr ?_
  conv=>whnf
  refine zd8 (n:=m) (hp:=h1++[AB.cells 0 (some 147) (keyE []).cells 0]) (by omega) r2 1 (by omega) (fun h3 q3 r3 k3=>?_) (fun q=>?_)
  ·have c3:=c2.stays k3 (by simpa using ⟨cb'.1,cb'.2.1,cb'.2.2.1,cb'.2.2.2⟩)
   have kl:zah (s1.take 1)<256:=Nat.lt_of_lt_of_eq (zcm 1 _ (by rw [List.length_take];omega)) (by decide)
   conv=>whnf
   refine ⟨⟨?_,?_⟩,?_⟩
   ·conv=>whnf
    exact ldI c3.cr rfl
   ·conv=>whnf
    exact ldI c3.cr rfl
   conv=>whnf
   refine zxj (n:=m) (hp:=h3) (by omega) r3 (zah (s1.take 1)) (by omega) (fun h4 q4 r4 k4=>?_) (fun q=>?_)
   ·have c4:=c3.stays k4 (by simpa using ⟨cb'.1,cb'.2.1,cb'.2.2.1,cb'.2.2.2⟩)
    have e4:=k4.get (k3.get eE (by simpa using bE)) (by simpa using bE)
    have x4:=(x2.stays k3 (fun z hz=>by simpa using (fun q:z=b=>bG1 (q ▸ hz))) (by simpa using hBk)).stays k4 (fun z hz=>by simpa using (fun q:z=b=>bG1 (q ▸ hz))) (by simpa using hBk)
    have kk4:Keep hp h4 (b::G):=(k2.trans k3 (fun z hz=>.inl (by simp at hz;simp [hz]))).trans k4 (fun z hz=>.inl (by simp at hz;simp [hz]))
    have lE:h1.length<h4.length:=zab e4
    conv=>whnf
    refine ⟨⟨?_,?_⟩,?_⟩
    ·conv=>whnf
     exact ldI c4.cr rfl
    ·conv=>whnf
     exact ldI c4.cr rfl
    have pt1:(pnum 1 s1).bind (fun k=>(ze8 k.1 k.2).bind fun t=>zf8 (preK pre lv j++t.1) lv t.2)=zf8 (preK pre lv j++(s1.drop 1).take (zah (s1.take 1))) lv ((s1.drop 1).drop (zah (s1.take 1))):=by
     simp only [pnum,if_pos q3,Option.bind_some,ze8,if_pos q4]
    have rest:∀ {Q:Ex → LS → Prop}(h5:zaa) (s':LS),Keep h4 h5 [h1.length] → h5[h1.length]?=some (.cells 0 (some 147) (keyE (preK pre lv j)).cells 0) →
      LS.sub ⟨[(0,.fn (.yield Bk) [] []),(1,.ptr N 0 0),(2,.ptr R 0 0),(3,.ptr LV 0 0),(4,.ptr PF 0 0),(7,.ptr h1.length 0 0),(8,.str ((s1.drop 1).take (zah (s1.take 1)))),(9,i64 k),(10,i64 j)],h5,[]⟩ s' →
      (∀ L h8 G8 e t,pent pre lv j s1=some (e,t) → XS h8 X Bk tree lv top (.loop false tms qs ca cb db) (es++[e]) G8 → RDs h8 b t → Keep hp h8 (b::G) → (∀ z∈G8,z∈G ∨ hp.length ≤ z) → subL [(0,.fn (.yield Bk) [] []),(1,.ptr N 0 0),(2,.ptr R 0 0),(3,.ptr LV 0 0),(4,.ptr PF 0 0),(9,i64 k),(10,i64 j)] L → Q .norm ⟨L,h8,[]⟩) →
      (∀ L h8,pent pre lv j s1=none → Keep hp h8 (b::G) → Q (.pan badV) ⟨L,h8,[]⟩) →
      OkR Tryz.prog (C m) cfg0.inl KK 38 6 (zfd (c255.lp 0)) s' Q:=by
     intro Q h5 s' k5 e5 hs' hok hbad
     have nE:h1.length ∉ G1:=fun q=>by have:=g2.lt _ q;omega
     have gE:∀ {z},z<h1.length → z≠h1.length:=fun h=>by omega
     have c5:=c4.stays k5 (by simp only [List.mem_singleton];exact ⟨gE (zab c1.cn),gE (zab c1.cr),gE (zab c1.cl),gE (zab c1.cp)⟩)
     have r5:=r4.stays k5 (by simpa using bE.symm)
     have x5:=x4.stays k5 (fun z hz=>by simpa using (fun q:z=h1.length=>nE (q ▸ hz))) (by simpa using gE (zab g2.loop))
     have kk5:Keep hp h5 (b::G):=kk4.trans k5 (fun z hz=>.inr (by simp at hz;rw [hz];exact g4.1))
     have hs4:((s1.drop 1).take (zah (s1.take 1))).length<256:=by rw [List.length_take];omega
     have hpk:(preK pre lv j).length<1073741824:=by unfold preK;split;exact hpre;simp
     refine cutI (by decide) rfl hs' ?_
     conv=>whnf
     refine ldI e5 ?_
     conv=>whnf
     refine ⟨by rw [show (keyE (preK pre lv j)).key=preK pre lv j from rfl];omega,?_⟩
     conv=>whnf
     refine stJ e5 ?_
     have e6:(h5.set h1.length (.cells 0 (some 147) (putAt (keyE (preK pre lv j)).cells (0+0) [.str (preK pre lv j++(s1.drop 1).take (zah (s1.take 1)))]) 0))[h1.length]?=some (.cells 0 (some 147) (keyE (preK pre lv j++(s1.drop 1).take (zah (s1.take 1)))).cells 0):=by
      rw [List.getElem?_set_self (zab e5)];rfl
     have k6:Keep h5 (h5.set h1.length (.cells 0 (some 147) (putAt (keyE (preK pre lv j)).cells (0+0) [.str (preK pre lv j++(s1.drop 1).take (zah (s1.take 1)))]) 0)) [h1.length]:=Keep.set (by simp)
     have c6:=c5.stays k6 (by simp only [List.mem_singleton];exact ⟨gE (zab c1.cn),gE (zab c1.cr),gE (zab c1.cl),gE (zab c1.cp)⟩)
     have r6:=r5.stays k6 (by simpa using bE.symm)
     have x6:=x5.stays k6 (fun z hz=>by simpa using (fun q:z=h1.length=>nE (q ▸ hz))) (by simpa using gE (zab g2.loop))
     have kk6:=kk5.trans k6 (fun z hz=>.inr (by simp at hz;rw [hz];exact g4.1))
     conv=>whnf
     refine ldI c6.cr ?_
     conv=>whnf
     refine ldI c6.cl ?_
     obtain ⟨rr,h7,ec,hc⟩:=zww (n:=m) (by omega) r6 _ e6 bE lv
     conv=>whnf
     refine ⟨rr,h7,ec,?_⟩
     have pt2:pent pre lv j s1=zf8 (preK pre lv j++(s1.drop 1).take (zah (s1.take 1))) lv ((s1.drop 1).drop (zah (s1.take 1))):=pt1
     cases hp7:zf8 (preK pre lv j++(s1.drop 1).take (zah (s1.take 1))) lv ((s1.drop 1).drop (zah (s1.take 1))) with
     | none =>
      rw [hp7] at hc
      obtain ⟨rfl,k7⟩:=hc
      conv=>whnf
      exact hbad _ h7 (pt2.trans hp7) (kk6.trans k7 (fun z hz=>by simp at hz;rcases hz with rfl | rfl;exact .inl (by simp);exact .inr g4.1))
     | some p =>
      obtain ⟨e,t⟩:=p
      rw [hp7] at hc
      obtain ⟨rfl,r7,e7,k7⟩:=hc
      have x7:=x6.stays k7 (fun z hz=>by simp only [List.mem_cons,List.not_mem_nil,or_false,not_or];exact ⟨fun q=>bG1 (q ▸ hz),fun q=>nE (q ▸ hz)⟩) (by simp only [List.mem_cons,List.not_mem_nil,or_false,not_or];exact ⟨hBk,gE (zab g2.loop)⟩)
      have kk7:=kk6.trans k7 (fun z hz=>by simp at hz;rcases hz with rfl | rfl;exact .inl (by simp);exact .inr g4.1)
      obtain ⟨h8,G8,ey,x8,k8,g8⟩:=z1z (n:=m) (by omega) x7 H hq hca hcb (by rw [g6];omega) e
      conv=>whnf
      refine ldI e7 ?_
      conv=>whnf
      refine clI ey ?_
      conv=>whnf
      refine hok _ h8 G8 e t (pt2.trans hp7) x8 (r7.stays k8 bG1) (kk7.trans k8 (fun z hz=>(g5 z hz).imp (fun q=>by simp [q]) id)) (fun z hz=>?_) ⟨rfl,rfl,rfl,rfl,rfl,rfl,rfl⟩
      rcases g8 z hz with q | q
      ·exact g5 z q
      ·exact .inr (Nat.le_trans kk7.1 q)
    have hstore:∀ (key:Str),((h4.set h1.length (.cells 0 (some 147) (putAt (keyE []).cells (0+0) [.str key]) 0))[h1.length]?=some (.cells 0 (some 147) (keyE key).cells 0)):=fun key=>by
     rw [List.getElem?_set_self lE];rfl
    have next:∀ (L:LT) (h8:zaa) (G8:List Nat) (e:Entry) (t:Str),pent pre lv j s1=some (e,t) → (ze9 pre lv k 0 s=(ze9 pre lv (k-(j+1)) (j+1) t).map fun q=>((es++[e])++q.1,q.2)):=fun L h8 G8 e t q=>by
     rw [g7,q,hd']
     simp only [Option.bind_some,Option.map_map]
     congr 1
     funext z
     simp
    conv=>whnf
    refine brd (fun a1=>?_) (fun a1=>?_)
    ·have ek:preK pre lv j=pre:=by unfold preK;rw [if_pos (.inl (by omega))]
     conv=>whnf
     refine ldI c4.cp ?_
     conv=>whnf
     refine stJ e4 ?_
     conv=>whnf
     refine rest (h4.set h1.length (.cells 0 (some 147) (putAt (keyE []).cells (0+0) [.str pre]) 0)) _ (Keep.set (by simp)) (by rw [ek];exact hstore pre) ⟨⟨rfl,rfl,rfl,rfl,rfl,rfl,rfl,rfl,rfl⟩,rfl,rfl⟩ (fun L h8 G8 e t q x8 r8 k8 g8 hL=>?_) (fun L h8 q k8=>?_)
     ·refine cutI (by decide) rfl (t:=⟨[(0,.fn (.yield Bk) [] []),(1,.ptr N 0 0),(2,.ptr R 0 0),(3,.ptr LV 0 0),(4,.ptr PF 0 0),(9,i64 k),(10,i64 j)],h8,[]⟩) ⟨hL,rfl,rfl⟩ ?_
      conv=>whnf
      refine zJ j ?_
      exact nxI (j+1,es++[e],t,G8,h8) ⟨hj,x8,r8,k8,g8,by simp [g6],next [] h8 G8 e t q⟩ (by simp only;omega) ⟨⟨rfl,rfl,rfl,rfl,rfl,rfl,rfl⟩,rfl,rfl⟩
     ·conv=>whnf
      rw [pe q]
      exact ⟨rfl,k8⟩
    ·conv=>whnf
     refine ldI c4.cl ?_
     conv=>whnf
     refine bre (fun a2=>?_) (fun a2=>?_)
     ·have ek:preK pre lv j=pre:=by unfold preK;rw [if_pos (.inr a2)]
      conv=>whnf
      refine ldI c4.cp ?_
      conv=>whnf
      refine stJ e4 ?_
      conv=>whnf
      refine rest (h4.set h1.length (.cells 0 (some 147) (putAt (keyE []).cells (0+0) [.str pre]) 0)) _ (Keep.set (by simp)) (by rw [ek];exact hstore pre) ⟨⟨rfl,rfl,rfl,rfl,rfl,rfl,rfl,rfl,rfl⟩,rfl,rfl⟩ (fun L h8 G8 e t q x8 r8 k8 g8 hL=>?_) (fun L h8 q k8=>?_)
      ·refine cutI (by decide) rfl (t:=⟨[(0,.fn (.yield Bk) [] []),(1,.ptr N 0 0),(2,.ptr R 0 0),(3,.ptr LV 0 0),(4,.ptr PF 0 0),(9,i64 k),(10,i64 j)],h8,[]⟩) ⟨hL,rfl,rfl⟩ ?_
       conv=>whnf
       refine zJ j ?_
       exact nxI (j+1,es++[e],t,G8,h8) ⟨hj,x8,r8,k8,g8,by simp [g6],next [] h8 G8 e t q⟩ (by simp only;omega) ⟨⟨rfl,rfl,rfl,rfl,rfl,rfl,rfl⟩,rfl,rfl⟩
      ·conv=>whnf
       rw [pe q]
       exact ⟨rfl,k8⟩
     ·have ek:preK pre lv j=[]:=by unfold preK;rw [if_neg (by omega)]
      conv=>whnf
      refine rest h4 _ (Keep.refl _ _) (by rw [ek];exact e4) ⟨⟨rfl,rfl,rfl,rfl,rfl,rfl,rfl,rfl,rfl⟩,rfl,rfl⟩ (fun L h8 G8 e t q x8 r8 k8 g8 hL=>?_) (fun L h8 q k8=>?_)
      ·refine cutI (by decide) rfl (t:=⟨[(0,.fn (.yield Bk) [] []),(1,.ptr N 0 0),(2,.ptr R 0 0),(3,.ptr LV 0 0),(4,.ptr PF 0 0),(9,i64 k),(10,i64 j)],h8,[]⟩) ⟨hL,rfl,rfl⟩ ?_
       conv=>whnf
       refine zJ j ?_
       exact nxI (j+1,es++[e],t,G8,h8) ⟨hj,x8,r8,k8,g8,by simp [g6],next [] h8 G8 e t q⟩ (by simp only;omega) ⟨⟨rfl,rfl,rfl,rfl,rfl,rfl,rfl⟩,rfl,rfl⟩
      ·conv=>whnf
       rw [pe q]
       exact ⟨rfl,k8⟩
   ·conv=>whnf
    have:pent pre lv j s1=none:=by simp only [pent,pnum,if_pos q3,Option.bind_some,ze8,if_neg (Nat.not_le.2 q),Option.bind_none]
    rw [pe this]
    exact ⟨rfl,k2.trans k3 (fun z hz=>.inl (by simp at hz;simp [hz]))⟩
  ·conv=>whnf
   have:pent pre lv j s1=none:=by simp only [pent,pnum,if_neg (Nat.not_le.2 q),Option.bind_none]
   rw [pe this]
   exact ⟨rfl,k2⟩
 ·have hj:j=k:=by simp only at a;omega
  subst hj
  rw [Nat.sub_self] at g7
  simp only [ze9,Option.map_some,List.append_nil] at g7
  conv=>whnf
  refine ⟨[],rfl,?_⟩
  rw [g7]
  have g2':XS h1 X Bk tree lv top (.loop false tms qs ca cb db) ([]++es) G1:=by simpa using g2
  exact ⟨rfl,g3,G1,g2',g4,g5⟩
end
structure NodeP where
 tree:Nat
 lv:Nat
 top:Bool
 es:List Entry
def zdw (s:Str):Option (NodeP × Str) :=
 (pnum 1 s).bind fun t=>(pnum 1 t.2).bind fun l=>(pnum 1 l.2).bind fun o=>(pnum 1 o.2).bind fun z=>(pnum 2 z.2).bind fun n=>(ze8 z.1 n.2).bind fun p=>(ze8 (2*n.1) p.2).bind fun q=>(ze9 p.1 l.1 n.1 0 q.2).map fun e=>(⟨t.1,l.1,o.1==1,e.1⟩,e.2)
section
variable {n:Nat}{hp:zaa}{b:Nat}{s:Str}
theorem zwm (hn:1 ≤ n) (k lv:Int) (pre:Str):C n 250 [.ptr b 0 0,i64 k,i64 lv,.str pre] hp =
  some (.ret (.fn (.func 255) [] [.ptr (hp.length+1) 0 0,.ptr hp.length 0 0,.ptr (hp.length+2) 0 0,.ptr (hp.length+3) 0 0]),hp++[AB.cells 0 (some 308) [.ptr b 0 0] 0]++[AB.cells 0 (some 3) [i64 k] 0]++[AB.cells 0 (some 3) [i64 lv] 0]++[AB.cells 0 (some 9) [.str pre] 0]):=by
 obtain ⟨m,rfl⟩:=pre1 n
 refine za7 F250 rfl rfl ?_
 conv=>whnf
 refine ⟨rfl,_,rfl,?_,rfl⟩
 show AV.fn _ _ _=AV.fn _ _ _
 simp
theorem ztd (k:Nat):(((k:Nat):Int)==1)=(k==1):=by rw [Bool.eq_iff_iff,beq_iff_eq,beq_iff_eq];omega
def zw2 (hp:zaa) (b:Nat) (x:NodeP) (t:Str) (r:CRes) (h:zaa):Prop :=
 ∃ X L G,r=.ret (.ifc 296 (.agg [i64 x.tree,i64 x.lv,.bool x.top,L])) ∧ RDs h b t ∧ GBuf 147 22 h X L (x.es.map Entry.cells) G ∧ Keep hp h [b] ∧ X<h.length ∧ ∀ y∈G,hp.length ≤ y
theorem z62 (hn:5 ≤ n) (r:RDs hp b s) (kind:Int) (hk:kind=1 ∨ kind=2) :
  ∃ r h,C n 231 [.ptr b 0 0,i64 kind] hp=some (r,h) ∧ zhv (zdw s) (zw2 hp b) (fun h=>Keep hp h [b]) r h:=by
 obtain ⟨m,rfl⟩:=pre1 n
 refine zav (n:=m) (c:=cfg0) F231 rfl rfl ?_
 have hb:=r.lt
 have rest:∀ {Q:Ex → LS → Prop}(s':LS),LS.sub ⟨[(0,.ptr b 0 0)],hp,[]⟩ s' → (∀ s1,EndQ Tryz.prog (C m) cfg0.inl [.tmp 4] (zhv (zdw s) (zw2 hp b) (fun h=>Keep hp h [b])) .ret s1 → Q .ret s1) → (∀ v s1,EndQ Tryz.prog (C m) cfg0.inl [.tmp 4] (zhv (zdw s) (zw2 hp b) (fun h=>Keep hp h [b])) (.pan v) s1 → Q (.pan v) s1) →
   OkR Tryz.prog (C m) cfg0.inl KK 95 7 (zfd c231) s' Q:=by
  intro Q s' hs' hret hpan
  refine cutI (by decide) rfl hs' ?_
  have bad:∀ (L:LT) (h:zaa),zdw s=none → Keep hp h [b] → Q (.pan badV) ⟨L,h,[]⟩:=fun L h q k=>by
   refine hpan _ _ ?_
   show zhv (zdw s) (zw2 hp b) (fun h=>Keep hp h [b]) (.pan badV) h
   rw [q]
   exact ⟨rfl,k⟩
  conv=>whnf
  refine zd8 (n:=m) (hp:=hp) (by omega) r 1 (by omega) (fun h1 q1 r1 k1=>?_) (fun q=>bad _ _ (by simp only [zdw,pnum,if_neg (Nat.not_le.2 q),Option.bind_none]) (Keep.refl _ _))
  conv=>whnf
  refine zd8 (n:=m) (hp:=h1) (by omega) r1 1 (by omega) (fun h2 q2 r2 k2=>?_) (fun q=>bad _ _ (by simp only [zdw,pnum,if_pos q1,Option.bind_some,if_neg (Nat.not_le.2 q),Option.bind_none]) k1)
  have k02:=k1.trans k2 (fun z hz=>.inl hz)
  conv=>whnf
  refine stJ (zaf _ _) ?_
  have es1:(h2++[AB.cells 0 (some 296) [i64 0,i64 0,.bool false,.lst 0 [] true] 0]).set h2.length (AB.cells 0 (some 296) [i64 (zah (s.take 1)),i64 (zah ((s.drop 1).take 1)),.bool false,.lst 0 [] true] 0)=h2++[AB.cells 0 (some 296) [i64 (zah (s.take 1)),i64 (zah ((s.drop 1).take 1)),.bool false,.lst 0 [] true] 0]:=by simp
  have hbX:h2.length≠b:=by have:=r2.lt;omega
  have hbX':h2.length ∉ [b]:=by simpa using hbX
  have x3:((h2++[AB.cells 0 (some 296) [i64 0,i64 0,.bool false,.lst 0 [] true] 0]).set h2.length (AB.cells 0 (some 296) [i64 (zah (s.take 1)),i64 (zah ((s.drop 1).take 1)),.bool false,.lst 0 [] true] 0))[h2.length]?=some (AB.cells 0 (some 296) [i64 (zah (s.take 1)),i64 (zah ((s.drop 1).take 1)),.bool false,.lst 0 [] true] 0):=by rw [es1];exact zaf _ _
  have kx:Keep h2 ((h2++[AB.cells 0 (some 296) [i64 0,i64 0,.bool false,.lst 0 [] true] 0]).set h2.length (AB.cells 0 (some 296) [i64 (zah (s.take 1)),i64 (zah ((s.drop 1).take 1)),.bool false,.lst 0 [] true] 0)) []:=by rw [es1];exact Keep.app _ _ _
  have r3:=r2.stays kx (by simp)
  have k03:=k02.trans kx (by simp)
  conv=>whnf
  refine zd8 (n:=m) (hp:=((h2++[AB.cells 0 (some 296) [i64 0,i64 0,.bool false,.lst 0 [] true] 0]).set h2.length (AB.cells 0 (some 296) [i64 (zah (s.take 1)),i64 (zah ((s.drop 1).take 1)),.bool false,.lst 0 [] true] 0))) (by omega) r3 1 (by omega) (fun h4 q4 r4 k4=>?_) (fun q=>bad _ _ (by simp only [zdw,pnum,if_pos q1,if_pos q2,Option.bind_some,if_neg (Nat.not_le.2 q),Option.bind_none]) k03)
  have k04:=k03.trans k4 (fun z hz=>.inl hz)
  have x4:=k4.get x3 hbX'
  conv=>whnf
  refine stJ x4 ?_
  have etop:=ztd (zah (((s.drop 1).drop 1).take 1))
  have kx5:Keep h4 (h4.set h2.length (AB.cells 0 (some 296) [i64 (zah (s.take 1)),i64 (zah ((s.drop 1).take 1)),.bool ((zah (((s.drop 1).drop 1).take 1):Int)==1),.lst 0 [] true] 0)) [h2.length]:=Keep.set (by simp)
  have r5:=r4.stays kx5 (by simpa using hbX.symm)
  have k05:Keep hp _ [b]:=k04.trans kx5 (fun z hz=>.inr (by simp at hz;rw [hz];exact k02.1))
  have x5:(h4.set h2.length (AB.cells 0 (some 296) [i64 (zah (s.take 1)),i64 (zah ((s.drop 1).take 1)),.bool ((zah (((s.drop 1).drop 1).take 1):Int)==1),.lst 0 [] true] 0))[h2.length]?=some (AB.cells 0 (some 296) [i64 (zah (s.take 1)),i64 (zah ((s.drop 1).take 1)),.bool ((zah (((s.drop 1).drop 1).take 1):Int)==1),.lst 0 [] true] 0):=by rw [List.getElem?_set_self (zab x4)]
  conv=>whnf
  refine zd8 (n:=m) (hp:=h4.set h2.length (AB.cells 0 (some 296) [i64 (zah (s.take 1)),i64 (zah ((s.drop 1).take 1)),.bool ((zah (((s.drop 1).drop 1).take 1):Int)==1),.lst 0 [] true] 0)) (by omega) r5 1 (by omega) (fun h6 q6 r6 k6=>?_) (fun q=>bad _ _ (by simp only [zdw,pnum,if_pos q1,if_pos q2,if_pos q4,Option.bind_some,if_neg (Nat.not_le.2 q),Option.bind_none]) k05)
  have k06:=k05.trans k6 (fun z hz=>.inl hz)
  have x6:=k6.get x5 hbX'
  conv=>whnf
  refine zd8 (n:=m) (hp:=h6) (by omega) r6 2 (by omega) (fun h7 q7 r7 k7=>?_) (fun q=>bad _ _ (by simp only [zdw,pnum,if_pos q1,if_pos q2,if_pos q4,if_pos q6,Option.bind_some,if_neg (Nat.not_le.2 q),Option.bind_none]) k06)
  have k07:=k06.trans k7 (fun z hz=>.inl hz)
  have x7:=k7.get x6 hbX'
  have lz:zah ((((s.drop 1).drop 1).drop 1).take 1)<256:=Nat.lt_of_lt_of_eq (zcm 1 _ (by rw [List.length_take];omega)) (by decide)
  have ln:zah (((((s.drop 1).drop 1).drop 1).drop 1).take 2)<65536:=Nat.lt_of_lt_of_eq (zcm 2 _ (by rw [List.length_take];omega)) (by decide)
  conv=>whnf
  refine zxj (n:=m) (hp:=h7) (by omega) r7 _ (by omega) (fun h8 q8 r8 k8=>?_) (fun q=>bad _ _ (by simp only [zdw,pnum,ze8,if_pos q1,if_pos q2,if_pos q4,if_pos q6,if_pos q7,Option.bind_some,if_neg (Nat.not_le.2 q),Option.bind_none]) k07)
  have k08:=k07.trans k8 (fun z hz=>.inl hz)
  have x8:=k8.get x7 hbX'
  conv=>whnf
  refine zI (z:=((2*zah (((((s.drop 1).drop 1).drop 1).drop 1).take 2):Nat):Int)) (by rw [zae (by omega) (by omega)];omega) ?_
  conv=>whnf
  refine zxj (n:=m) (hp:=h8) (by omega) r8 _ (by omega) (fun h9 q9 r9 k9=>?_) (fun q=>bad _ _ (by simp only [zdw,pnum,ze8,if_pos q1,if_pos q2,if_pos q4,if_pos q6,if_pos q7,if_pos q8,Option.bind_some,if_neg (Nat.not_le.2 q),Option.bind_none]) k08)
  have k09:=k08.trans k9 (fun z hz=>.inl hz)
  have x9:=k9.get x8 hbX'
  have hpn:zdw s=(ze9 ((((((s.drop 1).drop 1).drop 1).drop 1).drop 2).take (zah ((((s.drop 1).drop 1).drop 1).take 1))) (zah ((s.drop 1).take 1)) (zah (((((s.drop 1).drop 1).drop 1).drop 1).take 2)) 0 (((((((s.drop 1).drop 1).drop 1).drop 1).drop 2).drop (zah ((((s.drop 1).drop 1).drop 1).take 1))).drop (2*zah (((((s.drop 1).drop 1).drop 1).drop 1).take 2)))).map
    fun e=>(⟨zah (s.take 1),zah ((s.drop 1).take 1),((zah (((s.drop 1).drop 1).take 1):Int)==1),e.1⟩,e.2):=by
   simp only [zdw,pnum,ze8,if_pos q1,if_pos q2,if_pos q4,if_pos q6,if_pos q7,if_pos q8,if_pos q9,Option.bind_some,etop]
  have hpre:((((((s.drop 1).drop 1).drop 1).drop 1).drop 2).take (zah ((((s.drop 1).drop 1).drop 1).take 1))).length<1073741824:=by rw [List.length_take];omega
  conv=>whnf
  refine ldI x9 ?_
  conv=>whnf
  refine clI (zwm (n:=m) (hp:=h9) (by omega) ((zah (((((s.drop 1).drop 1).drop 1).drop 1).take 2)):Nat) ((zah ((s.drop 1).take 1)):Nat) ((((((s.drop 1).drop 1).drop 1).drop 1).drop 2).take (zah ((((s.drop 1).drop 1).drop 1).take 1)))) ?_
  -- the memory behind the call
  have lR:(h9++[AB.cells 0 (some 308) [.ptr b 0 0] 0]).length=h9.length+1:=by simp
  have lN:(h9++[AB.cells 0 (some 308) [.ptr b 0 0] 0]++[AB.cells 0 (some 3) [i64 ((zah (((((s.drop 1).drop 1).drop 1).drop 1).take 2)):Nat)] 0]).length=h9.length+2:=by simp
  have lL:(h9++[AB.cells 0 (some 308) [.ptr b 0 0] 0]++[AB.cells 0 (some 3) [i64 ((zah (((((s.drop 1).drop 1).drop 1).drop 1).take 2)):Nat)] 0]++[AB.cells 0 (some 3) [i64 ((zah ((s.drop 1).take 1)):Nat)] 0]).length=h9.length+3:=by simp
  have ka:Keep h9 (h9++[AB.cells 0 (some 308) [.ptr b 0 0] 0]++[AB.cells 0 (some 3) [i64 ((zah (((((s.drop 1).drop 1).drop 1).drop 1).take 2)):Nat)] 0]++[AB.cells 0 (some 3) [i64 ((zah ((s.drop 1).take 1)):Nat)] 0]++[AB.cells 0 (some 9) [.str ((((((s.drop 1).drop 1).drop 1).drop 1).drop 2).take (zah ((((s.drop 1).drop 1).drop 1).take 1)))] 0]) [] :=
   ((((Keep.app _ _ []).trans (Keep.app _ _ []) (by simp)).trans (Keep.app _ _ []) (by simp)).trans (Keep.app _ _ []) (by simp))
  have cR:(h9++[AB.cells 0 (some 308) [.ptr b 0 0] 0]++[AB.cells 0 (some 3) [i64 ((zah (((((s.drop 1).drop 1).drop 1).drop 1).take 2)):Nat)] 0]++[AB.cells 0 (some 3) [i64 ((zah ((s.drop 1).take 1)):Nat)] 0]++[AB.cells 0 (some 9) [.str ((((((s.drop 1).drop 1).drop 1).drop 1).drop 2).take (zah ((((s.drop 1).drop 1).drop 1).take 1)))] 0])[h9.length]?=some (AB.cells 0 (some 308) [.ptr b 0 0] 0):=za8 (za8 (za8 (zaf _ _)))
  have cN:(h9++[AB.cells 0 (some 308) [.ptr b 0 0] 0]++[AB.cells 0 (some 3) [i64 ((zah (((((s.drop 1).drop 1).drop 1).drop 1).take 2)):Nat)] 0]++[AB.cells 0 (some 3) [i64 ((zah ((s.drop 1).take 1)):Nat)] 0]++[AB.cells 0 (some 9) [.str ((((((s.drop 1).drop 1).drop 1).drop 1).drop 2).take (zah ((((s.drop 1).drop 1).drop 1).take 1)))] 0])[h9.length+1]?=some (AB.cells 0 (some 3) [i64 ((zah (((((s.drop 1).drop 1).drop 1).drop 1).take 2)):Nat)] 0):=by rw [← lR];exact za8 (za8 (zaf _ _))
  have cL:(h9++[AB.cells 0 (some 308) [.ptr b 0 0] 0]++[AB.cells 0 (some 3) [i64 ((zah (((((s.drop 1).drop 1).drop 1).drop 1).take 2)):Nat)] 0]++[AB.cells 0 (some 3) [i64 ((zah ((s.drop 1).take 1)):Nat)] 0]++[AB.cells 0 (some 9) [.str ((((((s.drop 1).drop 1).drop 1).drop 1).drop 2).take (zah ((((s.drop 1).drop 1).drop 1).take 1)))] 0])[h9.length+2]?=some (AB.cells 0 (some 3) [i64 ((zah ((s.drop 1).take 1)):Nat)] 0):=by rw [← lN];exact za8 (zaf _ _)
  have cP:(h9++[AB.cells 0 (some 308) [.ptr b 0 0] 0]++[AB.cells 0 (some 3) [i64 ((zah (((((s.drop 1).drop 1).drop 1).drop 1).take 2)):Nat)] 0]++[AB.cells 0 (some 3) [i64 ((zah ((s.drop 1).take 1)):Nat)] 0]++[AB.cells 0 (some 9) [.str ((((((s.drop 1).drop 1).drop 1).drop 1).drop 2).take (zah ((((s.drop 1).drop 1).drop 1).take 1)))] 0])[h9.length+3]?=some (AB.cells 0 (some 9) [.str ((((((s.drop 1).drop 1).drop 1).drop 1).drop 2).take (zah ((((s.drop 1).drop 1).drop 1).take 1)))] 0):=by rw [← lL];exact zaf _ _
  have lH:(h9++[AB.cells 0 (some 308) [.ptr b 0 0] 0]++[AB.cells 0 (some 3) [i64 ((zah (((((s.drop 1).drop 1).drop 1).drop 1).take 2)):Nat)] 0]++[AB.cells 0 (some 3) [i64 ((zah ((s.drop 1).take 1)):Nat)] 0]++[AB.cells 0 (some 9) [.str ((((((s.drop 1).drop 1).drop 1).drop 1).drop 2).take (zah ((((s.drop 1).drop 1).drop 1).take 1)))] 0]).length=h9.length+4:=by simp
  obtain ⟨hA,ehA⟩ : ∃ hA,hA=h9++[AB.cells 0 (some 308) [.ptr b 0 0] 0]++[AB.cells 0 (some 3) [i64 ((zah (((((s.drop 1).drop 1).drop 1).drop 1).take 2)):Nat)] 0]++[AB.cells 0 (some 3) [i64 ((zah ((s.drop 1).take 1)):Nat)] 0]++[AB.cells 0 (some 9) [.str ((((((s.drop 1).drop 1).drop 1).drop 1).drop 2).take (zah ((((s.drop 1).drop 1).drop 1).take 1)))] 0]:=⟨_,rfl⟩
  rw [← ehA] at ka cR cN cL cP lH
  rw [← ehA]
  conv=>whnf
  have lX:h2.length<h9.length:=zab x9
  have lb9:=r9.lt
  refine rangeI (gf:=255) (x:=[]) (lb:=[.ptr (h9.length+1) 0 0,.ptr h9.length 0 0,.ptr (h9.length+2) 0 0,.ptr (h9.length+3) 0 0]) rfl (by kernel_rfl) (fun tm qs ca cb H hq hca hcb=>?_)
  have kd:Keep hA (hA++[AB.dfd]++[AB.loop false tm qs ca cb hA.length]) []:=(Keep.app _ _ []).trans (Keep.app _ _ []) (by simp)
  have kad:=ka.trans kd (by simp)
  have lD:(hA++[AB.dfd]).length=hA.length+1:=by simp
  have xs:XS (hA++[AB.dfd]++[AB.loop false tm qs ca cb hA.length]) h2.length (hA.length+1) (zah (s.take 1)) (zah ((s.drop 1).take 1)) ((zah (((s.drop 1).drop 1).take 1):Int)==1) (.loop false tm qs ca cb hA.length) [] [h2.length] :=
   ⟨⟨.lst 0 [] true,kad.get x9 (by simp),⟨by simp,.inl ⟨rfl,rfl,rfl⟩⟩⟩,by rw [← lD];exact zaf _ _,by simp;omega⟩
  have H5:HasL 95 7 [(5,.ptr h2.length 0 0)] tm:=by
   refine HasL.sub ?_ H
   exact rfl
  obtain ⟨rr,hF,eF,sF⟩:=zs2 (n:=m) (by omega) xs H5 hq hca hcb (r9.stays kad (by simp)) ⟨kd.get cN (by simp),kd.get cR (by simp),kd.get cL (by simp),kd.get cP (by simp)⟩ ln hpre (by simpa using hbX.symm) (by simp;omega)
  refine ⟨rr,hF,eF,?_⟩
  have kk:Keep hp (hA++[AB.dfd]++[AB.loop false tm qs ca cb hA.length]) [b]:=k09.trans kad (by simp)
  have hX2:∀ {h:zaa},Keep (hA++[AB.dfd]++[AB.loop false tm qs ca cb hA.length]) h (b::[h2.length]) → Keep hp h [b]:=fun k=>kk.trans k (fun z hz=>by
   simp at hz
   rcases hz with rfl | rfl
   ·exact .inl (by simp)
   ·exact .inr k02.1)
  have dD:(hA++[AB.dfd]++[AB.loop false tm qs ca cb hA.length])[hA.length]?=some .dfd:=za8 (zaf _ _)
  have nD:hA.length ∉ b::[h2.length]:=by simp;omega
  cases hps:ze9 ((((((s.drop 1).drop 1).drop 1).drop 1).drop 2).take (zah ((((s.drop 1).drop 1).drop 1).take 1))) (zah ((s.drop 1).take 1)) (zah (((((s.drop 1).drop 1).drop 1).drop 1).take 2)) 0 (((((((s.drop 1).drop 1).drop 1).drop 1).drop 2).drop (zah ((((s.drop 1).drop 1).drop 1).take 1))).drop (2*zah (((((s.drop 1).drop 1).drop 1).drop 1).take 2))) with
  | none =>
   rw [hps] at sF
   obtain ⟨rfl,kF⟩:=sF
   have hpn':zdw s=none:=by rw [hpn,hps];rfl
   refine hpan _ _ ⟨kF.get dD nD,?_⟩
   show zhv (zdw s) (zw2 hp b) (fun h=>Keep hp h [b]) (.pan badV) (hF.set hA.length .dead)
   rw [hpn']
   exact ⟨rfl,(hX2 kF).set' (.inr (by have:=k09.1;omega))⟩
  | some p =>
   obtain ⟨es,t⟩:=p
   rw [hps] at sF
   obtain ⟨rfl,rF,G',xF,kF,gF⟩:=sF
   have hpn':zdw s=some (⟨(zah (s.take 1)),(zah ((s.drop 1).take 1)),((zah (((s.drop 1).drop 1).take 1):Int)==1),es⟩,t):=by rw [hpn,hps];rfl
   refine ⟨⟨_,_,_,_,_,xF.loop⟩,?_⟩
   have xG:=xF.lt
   obtain ⟨⟨L,n1,n2⟩,n3,n4⟩:=xF
   have nX:h2.length≠hA.length+1:=by omega
   have hD1:=kF.get dD nD
   have gD:∀ y∈G',y≠hA.length:=fun y hy q=>by
    rcases gF y hy with q2 | q2
    ·simp at q2;omega
    ·simp at q2;omega
   have e1:(hF.set (hA.length+1) .dead)[h2.length]?=some (AB.cells 0 (some 296) [i64 (zah (s.take 1)),i64 (zah ((s.drop 1).take 1)),.bool ((zah (((s.drop 1).drop 1).take 1):Int)==1),L] 0):=by rw [List.getElem?_set_ne (Ne.symm nX)];exact n1
   conv=>whnf
   refine cutI (by decide) rfl (t:=⟨[(5,.ptr h2.length 0 0)],hF.set (hA.length+1) .dead,[.col hA.length]⟩) ⟨rfl,rfl,rfl⟩ ?_
   conv=>whnf
   refine ldI e1 ?_
   refine hret _ ⟨by rw [List.getElem?_set_ne (by omega)];exact hD1,?_⟩
   refine ⟨_,rfl,?_⟩
   show zhv (zdw s) (zw2 hp b) (fun h=>Keep hp h [b]) (.ret _) ((hF.set (hA.length+1) .dead).set hA.length .dead)
   rw [hpn']
   have hlt:=zab n1
   refine ⟨h2.length,L,G',rfl,?_,?_,?_,by simp;exact hlt,?_⟩
   ·exact (rF.stays (Keep.set (F:=[hA.length+1]) (by simp)) (by simp;omega)).stays (Keep.set (F:=[hA.length]) (by simp)) (by simp;omega)
   ·exact n2.stays fun y hy _=>by
     rw [List.getElem?_set_ne (Ne.symm (gD y hy)),List.getElem?_set_ne (by rintro rfl;exact n4 hy)]
   ·exact ((hX2 kF).set' (.inr (by have:=k09.1;omega))).set' (.inr (by have:=k09.1;omega))
   ·intro y hy
    have l1:=k02.1
    have l2:=kk.1
    rcases gF y hy with q2 | q2
    ·simp at q2;omega
    ·omega
 rcases hk with rfl | rfl
 ·conv=>whnf
  exact rest _ ⟨rfl,rfl,rfl⟩ (fun _ h=>h) (fun _ _ h=>h)
 ·conv=>whnf
  exact rest _ ⟨rfl,rfl,rfl⟩ (fun _ h=>h) (fun _ _ h=>h)
end
def zdv (s:Str):Option ((Nat × Str) × Str):=(pnum 4 s).bind fun a=>(pnum 2 a.2).bind fun z=>(ze8 z.1 z.2).map fun d=>((a.1,d.1),d.2)
def zc5:Nat → Str → Option (List Nat × Str)
 | 0,s=>some ([],s)
 | k+1,s=>(pnum 4 s).bind fun a=>(zc5 k a.2).map fun r=>(a.1::r.1,r.2)
def zb4:Nat → Str → Option (List (Nat × List Nat) × Str)
 | 0,s=>some ([],s)
 | k+1,s=>(pnum 6 s).bind fun v=>(pnum 2 v.2).bind fun z=>(zc5 z.1 z.2).bind fun p=>(zb4 k p.2).map fun r=>((v.1,p.1)::r.1,r.2)
def zia (s:Str):Option ((Nat × List (Nat × List Nat)) × Str):=(pnum 4 s).bind fun a=>(pnum 2 a.2).bind fun z=>(zb4 z.1 z.2).map fun d=>((a.1,d.1),d.2)
section
variable {n:Nat}{hp:zaa}{b:Nat}{s:Str}
def zu4 (hp:zaa) (b:Nat) (x:Nat × Str) (t:Str) (r:CRes) (h:zaa):Prop :=
 r=.ret (.ifc 292 (.agg [i64 x.1,.str x.2])) ∧ RDs h b t ∧ Keep hp h [b]
theorem z3i (hn:5 ≤ n) (r:RDs hp b s) :
  ∃ r h,C n 231 [.ptr b 0 0,i64 3] hp=some (r,h) ∧ zhv (zdv s) (zu4 hp b) (fun h=>Keep hp h [b]) r h:=by
 obtain ⟨m,rfl⟩:=pre1 n
 refine zav (n:=m) (c:=cfg0) F231 rfl rfl ?_
 have hb:=r.lt
 have bad:∀ (h:zaa),zdv s=none → Keep hp h [b] → zhv (zdv s) (zu4 hp b) (fun h=>Keep hp h [b]) (.pan badV) h:=fun h q k=>by
  rw [q]
  exact ⟨rfl,k⟩
 conv=>whnf
 refine zd8 (n:=m) (hp:=hp) (by omega) r 4 (by omega) (fun h1 q1 r1 k1=>?_) (fun q=>bad _ (by simp only [zdv,pnum,if_neg (Nat.not_le.2 q),Option.bind_none]) (Keep.refl _ _))
 conv=>whnf
 refine stJ (zaf _ _) ?_
 have es1:(h1++[AB.cells 0 (some 292) [i64 0,.str []] 0]).set h1.length (AB.cells 0 (some 292) [i64 (zah (s.take 4)),.str []] 0)=h1++[AB.cells 0 (some 292) [i64 (zah (s.take 4)),.str []] 0]:=by simp
 have hbX:h1.length≠b:=by have:=r1.lt;omega
 have hbX':h1.length ∉ [b]:=by simpa using hbX
 have x2:((h1++[AB.cells 0 (some 292) [i64 0,.str []] 0]).set h1.length (AB.cells 0 (some 292) [i64 (zah (s.take 4)),.str []] 0))[h1.length]?=some (AB.cells 0 (some 292) [i64 (zah (s.take 4)),.str []] 0):=by rw [es1];exact zaf _ _
 have kx:Keep h1 ((h1++[AB.cells 0 (some 292) [i64 0,.str []] 0]).set h1.length (AB.cells 0 (some 292) [i64 (zah (s.take 4)),.str []] 0)) []:=by rw [es1];exact Keep.app _ _ _
 have r2:=r1.stays kx (by simp)
 have k02:=k1.trans kx (by simp)
 conv=>whnf
 refine zd8 (n:=m) (hp:=(h1++[AB.cells 0 (some 292) [i64 0,.str []] 0]).set h1.length (AB.cells 0 (some 292) [i64 (zah (s.take 4)),.str []] 0)) (by omega) r2 2 (by omega) (fun h3 q3 r3 k3=>?_) (fun q=>bad _ (by simp only [zdv,pnum,if_pos q1,Option.bind_some,if_neg (Nat.not_le.2 q),Option.bind_none]) k02)
 have k03:=k02.trans k3 (fun z hz=>.inl hz)
 have x3:=k3.get x2 hbX'
 have lz:zah ((s.drop 4).take 2)<65536:=Nat.lt_of_lt_of_eq (zcm 2 _ (by rw [List.length_take];omega)) (by decide)
 conv=>whnf
 refine zxj (n:=m) (hp:=h3) (by omega) r3 _ (by omega) (fun h4 q4 r4 k4=>?_) (fun q=>bad _ (by simp only [zdv,pnum,ze8,if_pos q1,if_pos q3,Option.bind_some,if_neg (Nat.not_le.2 q),Option.map_none]) k03)
 have k04:=k03.trans k4 (fun z hz=>.inl hz)
 have x4:=k4.get x3 hbX'
 conv=>whnf
 refine stJ x4 ?_
 conv=>whnf
 refine ldI (List.getElem?_set_self (zab x4)) ?_
 refine ⟨_,rfl,?_⟩
 show zhv (zdv s) (zu4 hp b) (fun h=>Keep hp h [b]) (.ret _) _
 have e:zdv s=some ((zah (s.take 4),((s.drop 4).drop 2).take (zah ((s.drop 4).take 2))),((s.drop 4).drop 2).drop (zah ((s.drop 4).take 2))):=by
  simp only [zdv,pnum,ze8,if_pos q1,if_pos q3,if_pos q4,Option.bind_some,Option.map_some]
 rw [e]
 exact ⟨rfl,r4.stays (Keep.set (F:=[h1.length]) (by simp)) (by simpa using hbX.symm),k04.set' (.inr k1.1)⟩
end
theorem zq6 (h:zaa) (x:AV) (hx:x.cells?=some [x]):zbc h 1 1 (.lst 1 [x] true)=some [x]:=by
 unfold zbc
 simp only
 rw [if_pos ⟨Nat.le_refl _,.inl trivial⟩]
 simp [hx]
def row1 (ps:List Nat):List (List AV):=ps.map fun p:Nat=>[i64 p]
structure PG (hp:zaa) (X:Nat) (ver:Int) (ps:List Nat) (G:List Nat):Prop where
 ex:∃ L,hp[X]?=some (.cells 0 (some 145) [i64 ver,L] 0) ∧ GBuf 3 1 hp X L (row1 ps) G
theorem PG.lt {hp:zaa}{X:Nat}{ver:Int}{ps:List Nat}{G:List Nat}(h:PG hp X ver ps G):∀ x∈G,x<hp.length:=by
 obtain ⟨L,h1,h2⟩:=h.ex
 exact h2.lt (zab h1)
theorem PG.stays {hp hp':zaa}{X:Nat}{ver:Int}{ps:List Nat}{G F:List Nat}(h:PG hp X ver ps G) (k:Keep hp hp' F) (hG:∀ x∈G,x ∉ F):PG hp' X ver ps G:=by
 have hl:=h.lt
 obtain ⟨L,h1,h2⟩:=h.ex
 exact ⟨L,k.get h1 (hG _ h2.mem),h2.stays fun x hx _=>k.2 x (hl x hx) (hG x hx)⟩
section
variable {hp:zaa}{b:Nat}{s:Str}
theorem zsc {m:Nat}(hm:4 ≤ m) (r:RDs hp b s) {X:Nat}{ver:Int}(x:PG hp X ver [] [X]) (k:Nat) (hk:k<65536) (v11 v68 v69:AV) {Q:Ex → LS → Prop}{st:LS}
  (hs:LS.sub ⟨[(0,.ptr b 0 0),(11,v11),(12,.ptr X 0 0),(68,v68),(69,v69),(75,i64 k),(76,i64 0)],hp,[]⟩ st)
  (hE:∀ ps t G h,zc5 k s=some (ps,t) → RDs h b t → PG h X ver ps G → Keep hp h [b,X] → (∀ z∈G,z=X ∨ hp.length ≤ z) → ∀ L,subL [(0,.ptr b 0 0),(11,v11),(12,.ptr X 0 0),(68,v68),(69,v69)] L → Q (.exit 5) ⟨L,h,[]⟩)
  (hP:∀ h L,zc5 k s=none → Keep hp h [b,X] → Q (.pan badV) ⟨L,h,[]⟩) :
  OkR Tryz.prog (C m) cfg0.inl KK 95 7 (.loop (c231.lp 1)) st Q:=by
 have hbl:=r.lt
 have hbX:b≠X:=by
  rintro rfl
  obtain ⟨all,a,q,_⟩:=r
  obtain ⟨L,q2,_⟩:=x.ex
  rw [q] at q2;cases q2
 have hXl:X<hp.length:=by obtain ⟨L,q2,_⟩:=x.ex;exact zab q2
 refine za3 (by decide) rfl (α:=Nat × List Nat × Str × List Nat × zaa) (fun y=>⟨[(0,.ptr b 0 0),(11,v11),(12,.ptr X 0 0),(68,v68),(69,v69),(75,i64 k),(76,i64 y.1)],y.2.2.2.2,[]⟩)
  (fun y=>y.1 ≤ k ∧ PG y.2.2.2.2 X ver y.2.1 y.2.2.2.1 ∧ RDs y.2.2.2.2 b y.2.2.1 ∧ Keep hp y.2.2.2.2 [b,X] ∧ (∀ z∈y.2.2.2.1,z=X ∨ hp.length ≤ z) ∧ y.2.1.length=y.1 ∧ zc5 k s=(zc5 (k-y.1) y.2.2.1).map fun q=>(y.2.1++q.1,q.2))
  (fun y=>k-y.1) (0,[],s,[X],hp) hs ⟨Nat.zero_le _,x,r,Keep.refl _ _,fun z hz=>.inl (by simpa using hz),rfl,by simp⟩ (by show k-0<KK;simp only [KK];omega) ?_
 rintro ⟨j,ps,s1,G1,h1⟩ ⟨g1,g2,g3,g4,g5,g6,g7⟩
 simp only at g1 g2 g3 g4 g5 g6 g7
 have bG1:b ∉ G1:=fun q=>by
  rcases g5 _ q with q | q
  ·exact hbX q
  ·omega
 conv=>whnf
 refine brd (fun a=>?_) (fun a=>?_)
 ·have hj:j<k:=by simp only at a;omega
  obtain ⟨d,hd⟩ : ∃ d,k-j=d+1:=⟨k-j-1,by omega⟩
  have hd':k-(j+1)=d:=by omega
  rw [hd] at g7
  simp only [zc5] at g7
  obtain ⟨L,x1,x2⟩:=g2.ex
  conv=>whnf
  refine ldI x1 ?_
  conv=>whnf
  refine zd8 (n:=m) (hp:=h1) (by omega) g3 4 (by omega) (fun h3 q3 r3 k3=>?_) (fun q=>?_)
  ·have x3:=k3.get x1 (by simpa using hbX.symm)
   have b3:GBuf 3 1 h3 X L (row1 ps) G1:=x2.stays fun y hy hn=>k3.2 y (x2.lt (zab x1) y hy) (by simp;rintro rfl;exact bG1 hy)
   have k03:Keep hp h3 [b,X]:=g4.trans k3 (fun z hz=>.inl (by simp at hz;simp [hz]))
   have hlen:(row1 ps).length=j:=by simp [row1,g6]
   obtain ⟨v,oh,ea,hp2,G',ehp2,p1,p2,p3,p4,xs,p5,p6⟩:=zhj (x:=.lst 1 [i64 (zah (s1.take 4))] true) b3 (zab x3) rfl (zq6 _ _ rfl) ⟨rfl,rfl⟩ (by rw [hlen];omega)
   subst p6
   have f3:=p1.trans x3
   have next:∀ (L':LT),subL [(0,.ptr b 0 0),(11,v11),(12,.ptr X 0 0),(68,v68),(69,v69),(75,i64 k),(76,i64 ((j+1:Nat):Int))] L' → ∃ y:Nat × List Nat × Str × List Nat × zaa,(y.1 ≤ k ∧ PG y.2.2.2.2 X ver y.2.1 y.2.2.2.1 ∧ RDs y.2.2.2.2 b y.2.2.1 ∧ Keep hp y.2.2.2.2 [b,X] ∧ (∀ z∈y.2.2.2.1,z=X ∨ hp.length ≤ z) ∧ y.2.1.length=y.1 ∧ zc5 k s=(zc5 (k-y.1) y.2.2.1).map fun q=>(y.2.1++q.1,q.2)) ∧ k-y.1<k-j ∧ LS.sub ⟨[(0,.ptr b 0 0),(11,v11),(12,.ptr X 0 0),(68,v68),(69,v69),(75,i64 k),(76,i64 y.1)],y.2.2.2.2,[]⟩ ⟨L',hp2.set X (.cells 0 (some 145) (putAt [i64 ver,L] 1 [v]) 0),[]⟩:=fun L' hL=>by
    have eX:(hp2.set X (.cells 0 (some 145) (putAt [i64 ver,L] 1 [v]) 0))[X]?=some (.cells 0 (some 145) [i64 ver,v] 0):=by rw [List.getElem?_set_self (zab f3)];rfl
    have kS:Keep h3 (hp2.set X (.cells 0 (some 145) (putAt [i64 ver,L] 1 [v]) 0)) G1:=p3.set' (.inl b3.mem)
    refine ⟨(j+1,ps++[zah (s1.take 4)],s1.drop 4,G',_),⟨hj,⟨v,eX,?_⟩,r3.stays kS bG1,?_,fun z hz=>?_,by simp [g6],?_⟩,by simp only;omega,hL,rfl,rfl⟩
    ·have:row1 (ps++[zah (s1.take 4)])=row1 ps++[[i64 (zah (s1.take 4))]]:=by simp [row1]
     rw [this]
     exact p2.stays fun y hy hn=>by rw [List.getElem?_set_ne (Ne.symm hn)]
    ·exact k03.trans kS (fun z hz=>by
      rcases g5 z hz with q | q
      ·exact .inl (by simp [q])
      ·exact .inr q)
    ·rcases p4 z hz with q | q
     ·exact g5 z q
     ·exact .inr (by have:=k03.1;omega)
    ·simp only
     rw [g7,hd']
     simp only [pnum,if_pos q3,Option.bind_some,Option.map_map]
     cases zc5 d (s1.drop 4) with
     | none=>rfl
     | some r=>simp
   conv=>whnf
   refine ⟨?_,?_⟩
   ·conv=>whnf
    exact ldI x3 rfl
   conv=>whnf
   refine ⟨rfl,?_⟩
   refine ⟨_,ea,?_⟩
   subst ehp2
   cases oh with
   | none =>
    conv=>whnf
    refine stI f3 p5 (by rfl) (by rfl) (by rfl) ?_
    conv=>whnf
    refine zJ j ?_
    exact next _ ⟨rfl,rfl,rfl,rfl,rfl,rfl,rfl⟩
   | some h2 =>
    conv=>whnf
    refine stI f3 p5 (by rfl) (by rfl) (by rfl) ?_
    conv=>whnf
    refine zJ j ?_
    exact next _ ⟨rfl,rfl,rfl,rfl,rfl,rfl,rfl⟩
  ·conv=>whnf
   exact hP _ _ (by rw [g7];simp only [pnum,if_neg (Nat.not_le.2 q),Option.bind_none,Option.map_none]) g4
 ·have hj:j=k:=by simp only at a;omega
  subst hj
  conv=>whnf
  refine hE ps s1 G1 h1 ?_ g3 g2 g4 g5 _ ⟨rfl,rfl,rfl,rfl,rfl⟩
  rw [g7,Nat.sub_self]
  simp [zc5]
end
def Inr (h:zaa) (ps:List Nat) (L:AV) (I:List Nat):Prop:=(L=.lst 0 [] true ∧ ps=[]) ∨ ∃ eb ver frz,L=.sl 1 eb ver 0 ps.length ∧ h[eb]?=some (.cells ver (some 3) (ps.map fun p:Nat=>i64 p) frz) ∧ eb∈I
theorem Inr.stays {h h':zaa}{ps:List Nat}{L:AV}{I I':List Nat}(r:Inr h ps L I) (e:∀ x∈I,h'[x]?=h[x]?) (hs:∀ x∈I,x∈I'):Inr h' ps L I':=by
 rcases r with r | ⟨eb,ver,frz,r1,r2,r3⟩
 ·exact .inl r
 ·exact .inr ⟨eb,ver,frz,r1,by rw [e eb r3];exact r2,hs eb r3⟩
theorem Inr.scal {h:zaa}{ps:List Nat}{L:AV}{I:List Nat}(r:Inr h ps L I):AV.scal L=true:=by
 rcases r with ⟨rfl,_⟩ | ⟨eb,ver,frz,rfl,_⟩<;>rfl
theorem zp9:∀ ps:List Nat,(row1 ps).flatten=ps.map fun p:Nat=>i64 p
 | []=>rfl
 | p::r=>by
  have:=zp9 r
  simp only [row1,List.map_cons,List.flatten_cons] at this ⊢
  rw [this];rfl
theorem GBuf.inr {h:zaa}{X:Nat}{L:AV}{ps:List Nat}{G:List Nat}(g:GBuf 3 1 h X L (row1 ps) G):Inr h ps L G:=by
 rcases g.2 with ⟨h1,h2,h3⟩ | ⟨eb,ver,frz,h1,h2,h3,h4,h5⟩
 ·left
  refine ⟨h1,?_⟩
  cases ps with
  | nil=>rfl
  | cons a r=>simp [row1] at h2
 ·right
  refine ⟨eb,ver,frz,?_,?_,by rw [h5];simp⟩
  ·rw [h1];simp [row1]
  ·rw [h2,zp9]
theorem zn7 {x:Int}{L:AV}(h:AV.scal L=true):([i64 x,L]:List AV).all AV.scal=true:=by
 simp only [List.all_cons,List.all_nil,h,Bool.and_true];rfl
theorem zpq {x:Int}{L:AV}(h:AV.scal L=true):AV.cells? (.agg [i64 x,L])=some [i64 x,L]:=by
 show (if ([i64 x,L]:List AV).all AV.scal=true then some [i64 x,L] else none)=_
 rw [if_pos (zn7 h)]
abbrev FT:Type:=Nat × List Nat × AV
def rowF (t:FT):List AV:=[i64 t.1,t.2.2]
def ofF (t:FT):Nat × List Nat:=(t.1,t.2.1)
structure LV (h:zaa) (Y:Nat) (LL:AV) (ts:List FT) (G I:List Nat):Prop where
 buf:GBuf 145 2 h Y LL (ts.map rowF) G
 inr:∀ t∈ts,Inr h t.2.1 t.2.2 I
theorem LV.stays {h h':zaa}{Y:Nat}{LL:AV}{ts:List FT}{G I:List Nat}(v:LV h Y LL ts G I) (e:∀ x∈G,x≠Y → h'[x]?=h[x]?) (ei:∀ x∈I,h'[x]?=h[x]?):LV h' Y LL ts G I :=
 ⟨v.buf.stays e,fun t ht=>(v.inr t ht).stays ei fun _ h=>h⟩
section
variable {hp:zaa}{b:Nat}{s:Str}
theorem zsx {m:Nat}(hm:4 ≤ m) (r:RDs hp b s) {Y:Nat}{next:Int}(y0:hp[Y]?=some (.cells 0 (some 294) [i64 next,.lst 0 [] true] 0)) (k:Nat) (hk:k<65536) {Q:Ex → LS → Prop}{st:LS}
  (hs:LS.sub ⟨[(0,.ptr b 0 0),(11,.ptr Y 0 0),(68,i64 k),(69,i64 0)],hp,[]⟩ st)
  (hE:∀ ts t G I LL h,zb4 k s=some (ts.map ofF,t) → RDs h b t → h[Y]?=some (.cells 0 (some 294) [i64 next,LL] 0) → LV h Y LL ts G I → Keep hp h [b,Y] → (∀ z∈G,z=Y ∨ hp.length ≤ z) → (∀ z∈I,hp.length ≤ z) → ∀ L,subL [(11,.ptr Y 0 0)] L → Q (.exit 3) ⟨L,h,[]⟩)
  (hP:∀ h L,zb4 k s=none → Keep hp h [b,Y] → Q (.pan badV) ⟨L,h,[]⟩) :
  OkR Tryz.prog (C m) cfg0.inl KK 95 7 (.loop (c231.lp 0)) st Q:=by
 have hbl:=r.lt
 have hYl:=zab y0
 have hbY:b≠Y:=by
  rintro rfl
  obtain ⟨all,a,q,_⟩:=r
  rw [q] at y0;cases y0
 refine za3 (by decide) rfl (α:=Nat × List FT × Str × List Nat × List Nat × AV × zaa) (fun y=>⟨[(0,.ptr b 0 0),(11,.ptr Y 0 0),(68,i64 k),(69,i64 y.1)],y.2.2.2.2.2.2,[]⟩)
  (fun y=>y.1 ≤ k ∧ y.2.2.2.2.2.2[Y]?=some (.cells 0 (some 294) [i64 next,y.2.2.2.2.2.1] 0) ∧ LV y.2.2.2.2.2.2 Y y.2.2.2.2.2.1 y.2.1 y.2.2.2.1 y.2.2.2.2.1 ∧ RDs y.2.2.2.2.2.2 b y.2.2.1 ∧ Keep hp y.2.2.2.2.2.2 [b,Y] ∧ (∀ z∈y.2.2.2.1,z=Y ∨ hp.length ≤ z) ∧ (∀ z∈y.2.2.2.2.1,hp.length ≤ z ∧ z ∉ y.2.2.2.1 ∧ z<y.2.2.2.2.2.2.length) ∧ y.2.1.length=y.1 ∧ zb4 k s=(zb4 (k-y.1) y.2.2.1).map fun q=>(y.2.1.map ofF++q.1,q.2))
  (fun y=>k-y.1) (0,[],s,[Y],[],.lst 0 [] true,hp) hs ⟨Nat.zero_le _,y0,⟨⟨by simp,.inl ⟨rfl,rfl,rfl⟩⟩,by simp⟩,r,Keep.refl _ _,fun z hz=>.inl (by simpa using hz),by simp,rfl,by simp⟩ (by show k-0<KK;simp only [KK];omega) ?_
 rintro ⟨j,ts,s1,G1,I1,LL,h1⟩ ⟨g1,g2,g3,g4,g5,g6,g7,g8,g9⟩
 simp only at g1 g2 g3 g4 g5 g6 g7 g8 g9
 have bG1:b ∉ G1:=fun q=>by
  rcases g6 _ q with q | q
  ·exact hbY q
  ·omega
 have bI1:b ∉ I1:=fun q=>by have:=(g7 _ q).1;omega
 conv=>whnf
 refine brd (fun a=>?_) (fun a=>?_)
 ·have hj:j<k:=by simp only at a;omega
  obtain ⟨d,hd⟩ : ∃ d,k-j=d+1:=⟨k-j-1,by omega⟩
  have hd':k-(j+1)=d:=by omega
  rw [hd] at g9
  simp only [zb4] at g9
  conv=>whnf
  refine zd8 (n:=m) (hp:=h1) (by omega) g4 6 (by omega) (fun h2 q2 r2 k2=>?_) (fun q=>?_)
  ·have k02:Keep hp h2 [b,Y]:=g5.trans k2 (fun z hz=>.inl (by simp at hz;simp [hz]))
   conv=>whnf
   refine stJ (zaf _ _) ?_
   have es2:(h2++[AB.cells 0 (some 145) [i64 0,.lst 0 [] true] 0]).set h2.length (AB.cells 0 (some 145) [i64 (zah (s1.take 6)),.lst 0 [] true] 0)=h2++[AB.cells 0 (some 145) [i64 (zah (s1.take 6)),.lst 0 [] true] 0]:=by simp
   have hbX:b≠h2.length:=by have:=r2.lt;omega
   have hYX:Y≠h2.length:=by have:=k2.1;have:=zab g2;omega
   have x3:((h2++[AB.cells 0 (some 145) [i64 0,.lst 0 [] true] 0]).set h2.length (AB.cells 0 (some 145) [i64 (zah (s1.take 6)),.lst 0 [] true] 0))[h2.length]?=some (AB.cells 0 (some 145) [i64 (zah (s1.take 6)),.lst 0 [] true] 0):=by rw [es2];exact zaf _ _
   have kx:Keep h2 ((h2++[AB.cells 0 (some 145) [i64 0,.lst 0 [] true] 0]).set h2.length (AB.cells 0 (some 145) [i64 (zah (s1.take 6)),.lst 0 [] true] 0)) []:=by rw [es2];exact Keep.app _ _ _
   have r3:=r2.stays kx (by simp)
   have k03:=k02.trans kx (by simp)
   conv=>whnf
   refine zd8 (n:=m) (hp:=(h2++[AB.cells 0 (some 145) [i64 0,.lst 0 [] true] 0]).set h2.length (AB.cells 0 (some 145) [i64 (zah (s1.take 6)),.lst 0 [] true] 0)) (by omega) r3 2 (by omega) (fun h4 q4 r4 k4=>?_) (fun q=>?_)
   ·have x4:=k4.get x3 (by simpa using hbX.symm)
    have k04:Keep hp h4 [b,Y]:=k03.trans k4 (fun z hz=>.inl (by simp at hz;simp [hz]))
    have lz:zah ((s1.drop 6).take 2)<65536:=Nat.lt_of_lt_of_eq (zcm 2 _ (by rw [List.length_take];omega)) (by decide)
    have hX1:h1.length ≤ h2.length:=k2.1
    conv=>whnf
    refine zsc (hp:=h4) hm r4 (X:=h2.length) (ver:=(zah (s1.take 6):Nat)) ⟨_,x4,⟨by simp [row1],.inl ⟨rfl,rfl,rfl⟩⟩⟩ _ lz (.ptr Y 0 0) (i64 k) (i64 j) ⟨⟨rfl,rfl,rfl,rfl,rfl,rfl,rfl⟩,rfl,rfl⟩ (fun ps t G5 h5 e5 r5 x5 k5 g5' L5 hL5=>?_) (fun h5 L5 e5 k5=>?_)
    ·have k15:Keep h1 h5 [b]:=((k2.trans kx (by simp)).trans k4 (fun z hz=>.inl hz)).trans k5 (fun z hz=>by
      simp at hz
      rcases hz with rfl | rfl
      ·exact .inl (by simp)
      ·exact .inr hX1)
     have y5:=k15.get g2 (by simpa using hbY.symm)
     have lG1:=g3.buf.lt (zab g2)
     have l5:LV h5 Y LL ts G1 I1:=g3.stays (fun x hx _=>k15.2 x (lG1 x hx) (by simp;rintro rfl;exact bG1 hx)) (fun x hx=>k15.2 x (g7 x hx).2.2 (by simp;rintro rfl;exact bI1 hx))
     have lG5:=x5.lt
     obtain ⟨L,x5a,x5b⟩:=x5.ex
     have hi:=x5b.inr
     have hsc:=hi.scal
     have l14:h1.length ≤ h4.length:=((k2.trans kx (by simp)).trans k4 (fun z hz=>.inl hz)).1
     have gG5:∀ z∈G5,h1.length ≤ z:=fun z hz=>by
      rcases g5' z hz with q | q
      ·omega
      ·omega
     obtain ⟨v,oh,ea,hp2,G',ehp2,p1,p2,p3,p4,xs,p5,p6⟩:=zhj (x:=.lst 2 [.agg [i64 (zah (s1.take 6)),L]] true) l5.buf (zab y5) rfl (zjc _ rfl (zpq hsc)) ⟨rfl,zn7 hsc⟩ (by simp only [List.length_map];omega)
     subst p6
     have f5:=p1.trans y5
     have nxt:∀ (L':LT),subL [(0,.ptr b 0 0),(11,.ptr Y 0 0),(68,i64 k),(69,i64 ((j+1:Nat):Int))] L' → ∃ y:Nat × List FT × Str × List Nat × List Nat × AV × zaa,(y.1 ≤ k ∧ y.2.2.2.2.2.2[Y]?=some (.cells 0 (some 294) [i64 next,y.2.2.2.2.2.1] 0) ∧ LV y.2.2.2.2.2.2 Y y.2.2.2.2.2.1 y.2.1 y.2.2.2.1 y.2.2.2.2.1 ∧ RDs y.2.2.2.2.2.2 b y.2.2.1 ∧ Keep hp y.2.2.2.2.2.2 [b,Y] ∧ (∀ z∈y.2.2.2.1,z=Y ∨ hp.length ≤ z) ∧ (∀ z∈y.2.2.2.2.1,hp.length ≤ z ∧ z ∉ y.2.2.2.1 ∧ z<y.2.2.2.2.2.2.length) ∧ y.2.1.length=y.1 ∧ zb4 k s=(zb4 (k-y.1) y.2.2.1).map fun q=>(y.2.1.map ofF++q.1,q.2)) ∧ k-y.1<k-j ∧ LS.sub ⟨[(0,.ptr b 0 0),(11,.ptr Y 0 0),(68,i64 k),(69,i64 y.1)],y.2.2.2.2.2.2,[]⟩ ⟨L',hp2.set Y (.cells 0 (some 294) (putAt [i64 next,LL] 1 [v]) 0),[]⟩:=fun L' hL=>by
      have kS:Keep h5 (hp2.set Y (.cells 0 (some 294) (putAt [i64 next,LL] 1 [v]) 0)) G1:=p3.set' (.inl l5.buf.mem)
      have eY:(hp2.set Y (.cells 0 (some 294) (putAt [i64 next,LL] 1 [v]) 0))[Y]?=some (.cells 0 (some 294) [i64 next,v] 0):=by rw [List.getElem?_set_self (zab f5)];rfl
      have n5:∀ z∈G5,z ∉ G1:=fun z hz q=>by have:=gG5 z hz;have:=lG1 z q;omega
      have sI:∀ x∈I1,(hp2.set Y (.cells 0 (some 294) (putAt [i64 next,LL] 1 [v]) 0))[x]?=h5[x]?:=fun x hx=>kS.2 x (by have:=(g7 x hx).2.2;have:=k15.1;omega) (g7 x hx).2.1
      have s5:∀ x∈G5,(hp2.set Y (.cells 0 (some 294) (putAt [i64 next,LL] 1 [v]) 0))[x]?=h5[x]?:=fun x hx=>kS.2 x (lG5 x hx) (n5 x hx)
      have hl1:=g5.1
      have hl2:=k15.1
      have hl3:=kS.1
      refine ⟨(j+1,ts++[(zah (s1.take 6),ps,L)],t,G',I1++G5,v,_),⟨hj,eY,⟨?_,fun u hu=>?_⟩,r5.stays kS bG1,?_,fun z hz=>?_,fun z hz=>?_,by simp [g8],?_⟩,by simp only;omega,hL,rfl,rfl⟩
      ·rw [List.map_append]
       exact p2.stays fun y hy hn=>by rw [List.getElem?_set_ne (Ne.symm hn)]
      ·rcases List.mem_append.1 hu with hu | hu
       ·exact (l5.inr u hu).stays sI fun x hx=>List.mem_append.2 (.inl hx)
       ·simp at hu
        subst hu
        exact hi.stays s5 fun x hx=>List.mem_append.2 (.inr hx)
      ·exact (g5.trans k15 (fun z hz=>.inl (by simp at hz;simp [hz]))).trans kS (fun z hz=>by
        rcases g6 z hz with q | q
        ·exact .inl (by simp [q])
        ·exact .inr q)
      ·rcases p4 z hz with q | q
       ·exact g6 z q
       ·exact .inr (by omega)
      ·rcases List.mem_append.1 hz with q | q
       ·obtain ⟨a1,a2,a3⟩:=g7 z q
        refine ⟨a1,fun q2=>?_,by simp only;omega⟩
        rcases p4 z q2 with q3 | q3
        ·exact a2 q3
        ·omega
       ·have a1:=gG5 z q
        have a2:=lG5 z q
        refine ⟨by omega,fun q2=>?_,by simp only;omega⟩
        rcases p4 z q2 with q3 | q3
        ·exact n5 z q q3
        ·omega
      ·simp only
       rw [g9,hd']
       have e1:pnum 6 s1=some (zah (s1.take 6),s1.drop 6):=by simp only [pnum,if_pos q2]
       have e2:pnum 2 (s1.drop 6)=some (zah ((s1.drop 6).take 2),(s1.drop 6).drop 2):=by simp only [pnum,if_pos q4]
       rw [e1]
       simp only [Option.bind_some]
       rw [e2]
       simp only [Option.bind_some]
       rw [e5]
       simp only [Option.bind_some,Option.map_map]
       cases zb4 d t with
       | none=>rfl
       | some r=>simp [ofF]
     conv=>whnf
     refine cutI (by decide) rfl (t:=⟨[(0,.ptr b 0 0),(11,.ptr Y 0 0),(12,.ptr h2.length 0 0),(68,i64 k),(69,i64 j)],h5,[]⟩) ⟨hL5,rfl,rfl⟩ ?_
     subst ehp2
     rcases hi with ⟨rfl,e⟩ | ⟨eb,ver',frz',rfl,i1,i2⟩
     ·conv=>whnf
      refine ldI y5 ?_
      conv=>whnf
      refine ldI x5a ?_
      conv=>whnf
      refine ⟨rfl,?_⟩
      refine ⟨_,ea,?_⟩
      cases oh with
      | none =>
       conv=>whnf
       refine stI f5 p5 (by rfl) (by rfl) (by rfl) ?_
       refine cutI (by decide) rfl (t:=⟨[(0,.ptr b 0 0),(11,.ptr Y 0 0),(68,i64 k),(69,i64 j)],_,[]⟩) ⟨⟨rfl,rfl,rfl,rfl⟩,rfl,rfl⟩ ?_
       conv=>whnf
       refine zJ j ?_
       exact nxt _ ⟨rfl,rfl,rfl,rfl⟩
      | some h9 =>
       conv=>whnf
       refine stI f5 p5 (by rfl) (by rfl) (by rfl) ?_
       refine cutI (by decide) rfl (t:=⟨[(0,.ptr b 0 0),(11,.ptr Y 0 0),(68,i64 k),(69,i64 j)],_,[]⟩) ⟨⟨rfl,rfl,rfl,rfl⟩,rfl,rfl⟩ ?_
       conv=>whnf
       refine zJ j ?_
       exact nxt _ ⟨rfl,rfl,rfl,rfl⟩
     ·conv=>whnf
      refine ldI y5 ?_
      conv=>whnf
      refine ldI x5a ?_
      conv=>whnf
      refine ⟨rfl,?_⟩
      refine ⟨_,ea,?_⟩
      cases oh with
      | none =>
       conv=>whnf
       refine stI f5 p5 (by rfl) (by rfl) (by rfl) ?_
       refine cutI (by decide) rfl (t:=⟨[(0,.ptr b 0 0),(11,.ptr Y 0 0),(68,i64 k),(69,i64 j)],_,[]⟩) ⟨⟨rfl,rfl,rfl,rfl⟩,rfl,rfl⟩ ?_
       conv=>whnf
       refine zJ j ?_
       exact nxt _ ⟨rfl,rfl,rfl,rfl⟩
      | some h9 =>
       conv=>whnf
       refine stI f5 p5 (by rfl) (by rfl) (by rfl) ?_
       refine cutI (by decide) rfl (t:=⟨[(0,.ptr b 0 0),(11,.ptr Y 0 0),(68,i64 k),(69,i64 j)],_,[]⟩) ⟨⟨rfl,rfl,rfl,rfl⟩,rfl,rfl⟩ ?_
       conv=>whnf
       refine zJ j ?_
       exact nxt _ ⟨rfl,rfl,rfl,rfl⟩
    ·conv=>whnf
     refine hP _ _ ?_ (k04.trans k5 (fun z hz=>?_))
     ·rw [g9]
      simp only [pnum,if_pos q2,if_pos q4,Option.bind_some,e5,Option.bind_none,Option.map_none]
     ·simp at hz
      rcases hz with rfl | rfl
      ·exact .inl (by simp)
      ·exact .inr k02.1
   ·conv=>whnf
    exact hP _ _ (by rw [g9];simp only [pnum,if_pos q2,Option.bind_some,if_neg (Nat.not_le.2 q),Option.bind_none,Option.map_none]) k03
  ·conv=>whnf
   exact hP _ _ (by rw [g9];simp only [pnum,if_neg (Nat.not_le.2 q),Option.bind_none,Option.map_none]) g5
 ·have hj:j=k:=by simp only at a;omega
  subst hj
  conv=>whnf
  refine hE ts s1 G1 I1 LL h1 ?_ g4 g2 g3 g5 g6 (fun z hz=>(g7 z hz).1) _ rfl
  rw [g9,Nat.sub_self]
  simp [zb4]
end
section
variable {n:Nat}{hp:zaa}{b:Nat}{s:Str}
def z8h (hp:zaa) (b:Nat) (x:Nat × List (Nat × List Nat)) (t:Str) (r:CRes) (h:zaa):Prop :=
 ∃ Y LL ts G I,r=.ret (.ifc 294 (.agg [i64 x.1,LL])) ∧ x.2=ts.map ofF ∧ RDs h b t ∧ LV h Y LL ts G I ∧ Keep hp h [b] ∧ (∀ z∈G,hp.length ≤ z) ∧ (∀ z∈I,hp.length ≤ z)
theorem z7d (hn:5 ≤ n) (r:RDs hp b s) (kind:Int) (k1:kind≠1) (k2:kind≠2) (k3:kind≠3) :
  ∃ r h,C n 231 [.ptr b 0 0,i64 kind] hp=some (r,h) ∧ zhv (zia s) (z8h hp b) (fun h=>Keep hp h [b]) r h:=by
 obtain ⟨m,rfl⟩:=pre1 n
 refine zav (n:=m) (c:=cfg0) F231 rfl rfl ?_
 have hb:=r.lt
 have bad:∀ (h:zaa),zia s=none → Keep hp h [b] → zhv (zia s) (z8h hp b) (fun h=>Keep hp h [b]) (.pan badV) h:=fun h q k=>by
  rw [q]
  exact ⟨rfl,k⟩
 conv=>whnf
 refine bre (fun e=>absurd e k1) (fun _=>?_)
 conv=>whnf
 refine bre (fun e=>absurd e k2) (fun _=>?_)
 conv=>whnf
 refine bre (fun e=>absurd e k3) (fun _=>?_)
 refine cutS (by decide) rfl ?_
 conv=>whnf
 refine zd8 (n:=m) (hp:=hp) (by omega) r 4 (by omega) (fun h1 q1 r1 k1=>?_) (fun q=>bad _ (by simp only [zia,pnum,if_neg (Nat.not_le.2 q),Option.bind_none]) (Keep.refl _ _))
 conv=>whnf
 refine stJ (zaf _ _) ?_
 have es1:(h1++[AB.cells 0 (some 294) [i64 0,.lst 0 [] true] 0]).set h1.length (AB.cells 0 (some 294) [i64 (zah (s.take 4)),.lst 0 [] true] 0)=h1++[AB.cells 0 (some 294) [i64 (zah (s.take 4)),.lst 0 [] true] 0]:=by simp
 have hbX:h1.length≠b:=by have:=r1.lt;omega
 have hbX':h1.length ∉ [b]:=by simpa using hbX
 have x2:((h1++[AB.cells 0 (some 294) [i64 0,.lst 0 [] true] 0]).set h1.length (AB.cells 0 (some 294) [i64 (zah (s.take 4)),.lst 0 [] true] 0))[h1.length]?=some (AB.cells 0 (some 294) [i64 (zah (s.take 4)),.lst 0 [] true] 0):=by rw [es1];exact zaf _ _
 have kx:Keep h1 ((h1++[AB.cells 0 (some 294) [i64 0,.lst 0 [] true] 0]).set h1.length (AB.cells 0 (some 294) [i64 (zah (s.take 4)),.lst 0 [] true] 0)) []:=by rw [es1];exact Keep.app _ _ _
 have r2:=r1.stays kx (by simp)
 have k02:=k1.trans kx (by simp)
 conv=>whnf
 refine zd8 (n:=m) (hp:=(h1++[AB.cells 0 (some 294) [i64 0,.lst 0 [] true] 0]).set h1.length (AB.cells 0 (some 294) [i64 (zah (s.take 4)),.lst 0 [] true] 0)) (by omega) r2 2 (by omega) (fun h3 q3 r3 k3=>?_) (fun q=>bad _ (by simp only [zia,pnum,if_pos q1,Option.bind_some,if_neg (Nat.not_le.2 q),Option.bind_none]) k02)
 have k03:=k02.trans k3 (fun z hz=>.inl hz)
 have x3:=k3.get x2 hbX'
 have lz:zah ((s.drop 4).take 2)<65536:=Nat.lt_of_lt_of_eq (zcm 2 _ (by rw [List.length_take];omega)) (by decide)
 have e0:zia s=(zb4 (zah ((s.drop 4).take 2)) ((s.drop 4).drop 2)).map fun d=>((zah (s.take 4),d.1),d.2):=by
  simp only [zia,pnum,if_pos q1,if_pos q3,Option.bind_some]
 have l13:hp.length ≤ h1.length:=k1.1
 have l3:hp.length ≤ h3.length:=k03.1
 conv=>whnf
 refine zsx (hp:=h3) (by omega) r3 (Y:=h1.length) (next:=(zah (s.take 4):Nat)) x3 _ lz ⟨⟨rfl,rfl,rfl,rfl⟩,rfl,rfl⟩ (fun ts t G I LL h e5 r5 y5 l5 k5 g5 i5 L5 hL5=>?_) (fun h L e5 k5=>?_)
 ·refine cutI (by decide) rfl (t:=⟨[(11,.ptr h1.length 0 0)],h,[]⟩) ⟨hL5,rfl,rfl⟩ ?_
  conv=>whnf
  refine ldI y5 ?_
  refine ⟨_,rfl,?_⟩
  show zhv (zia s) (z8h hp b) (fun h=>Keep hp h [b]) (.ret _) _
  rw [e0,e5]
  refine ⟨h1.length,LL,ts,G,I,rfl,rfl,r5,l5,k03.trans k5 (fun z hz=>?_),fun z hz=>?_,fun z hz=>?_⟩
  ·simp at hz
   rcases hz with rfl | rfl
   ·exact .inl (by simp)
   ·exact .inr l13
  ·rcases g5 z hz with q | q
   ·omega
   ·omega
  ·have:=i5 z hz
   omega
 ·refine bad h (by rw [e0,e5];rfl) (k03.trans k5 (fun z hz=>?_))
  simp at hz
  rcases hz with rfl | rfl
  ·exact .inl (by simp)
  ·exact .inr l13
end
theorem znv {sz:Nat}:∀ {rows:List (List AV)},(∀ r∈rows,r.length=sz) → zmd sz rows.length rows.flatten=rows
 | [],_=>rfl
 | a::r,h=>by
  have h1:=h a (List.mem_cons_self ..)
  show (a++r.flatten).take sz::zmd sz r.length ((a++r.flatten).drop sz)=_
  rw [← h1,List.take_left',List.drop_left']
  ·rw [h1,znv fun x hx=>h x (List.mem_cons_of_mem _ hx)]
  ·rfl
  ·rfl
theorem zt2 {sz:Nat}:∀ {rows:List (List AV)},(∀ r∈rows,r.length=sz) → rows.flatten.length=rows.length*sz
 | [],_=>by simp
 | a::r,h=>by
  have h1:=h a (List.mem_cons_self ..)
  have h2:=zt2 fun x hx=>h x (List.mem_cons_of_mem _ hx)
  simp only [List.flatten_cons,List.length_append,List.length_cons,h1,h2]
  rw [Nat.add_mul];omega
theorem zu2 {f:AV → Option AV}:∀ {a a' b b':List AV},allM f a=some a' → allM f b=some b' → allM f (a++b)=some (a'++b')
 | [],a',b,b',h1,h2=>by
  unfold allM at h1
  cases h1
  exact h2
 | x::xs,a',b,b',h1,h2=>by
  unfold allM at h1
  split at h1
  ·rename_i y ys hx hxs
   cases h1
   show allM f (x::(xs++b))=_
   unfold allM
   rw [hx,zu2 hxs h2]
   rfl
  ·cases h1
theorem z0b {h:zaa}{n sz eb ver frz:Nat}{el:Option TypeId}{rows rows':List (List AV)}(hz:sz≠1) (hb:h[eb]?=some (.cells ver el rows.flatten frz)) (hr:∀ r∈rows,r.length=sz) (ha:allM (Abs.frz h n) rows.flatten=some rows'.flatten)
  (hr':∀ r∈rows',r.length=sz ∧ r.all AV.scal=true) (hl:rows'.length=rows.length):Abs.frz h (n+1) (.sl sz eb ver 0 rows.length)=some (.lst sz (rows'.map .agg) false):=by
 unfold Abs.frz
 simp only [hb]
 have hlen:=zt2 hr
 rw [if_pos ⟨trivial,by rw [hlen];omega⟩]
 have h1:(rows.flatten.drop 0).take (rows.length*sz)=rows.flatten:=by rw [List.drop_zero];exact List.take_of_length_le (by rw [hlen];exact Nat.le_refl _)
 rw [h1,ha]
 simp only
 have h2:=(zih hr').2
 rw [if_pos h2]
 unfold zh3
 rw [if_neg hz]
 have e:zbm (TypeDesc.struct #[])=true:=rfl
 simp only [e,if_true]
 rw [← hl,znv fun r hm=>(hr' r hm).1]
theorem z7s {h:zaa}{n eb ver frz:Nat}{el:Option TypeId}{ps:List Nat}(hb:h[eb]?=some (.cells ver el (ps.map fun p:Nat=>i64 p) frz)):Abs.frz h (n+2) (.sl 1 eb ver 0 ps.length)=some (.lst 1 (ps.map fun p:Nat=>i64 p) false):=by
 unfold Abs.frz
 simp only [hb]
 have hlen:(ps.map fun p:Nat=>i64 p).length=ps.length*1:=by simp
 rw [if_pos ⟨trivial,by rw [hlen];omega⟩]
 have h1:((ps.map fun p:Nat=>i64 p).drop 0).take (ps.length*1)=ps.map fun p:Nat=>i64 p:=by rw [List.drop_zero];exact List.take_of_length_le (by rw [hlen];exact Nat.le_refl _)
 have h2:allM (Abs.frz h (n+1)) (ps.map fun p:Nat=>i64 p)=some (ps.map fun p:Nat=>i64 p):=zim fun x hx=>by
  obtain ⟨p,_,rfl⟩:=List.mem_map.1 hx
  rfl
 rw [h1,h2]
 simp only
 rw [if_pos (by rw [List.all_eq_true];intro x hx;obtain ⟨p,_,rfl⟩:=List.mem_map.1 hx;rfl)]
 rfl
theorem zrp {n:Nat}(e:Entry):∀ x∈e.cells,zf4 (n+1) x:=fun x hx=>by
 simp only [Entry.cells,Dg.cells,List.mem_cons,List.not_mem_nil,or_false] at hx
 rcases hx with rfl | rfl | rfl | rfl | rfl | rfl | rfl | rfl | rfl | rfl | rfl | rfl | rfl | rfl | rfl | rfl | rfl | rfl | rfl | rfl | rfl | rfl<;>intro h<;>rfl
theorem zup {h:zaa}{X:Nat}{L:AV}{es:List Entry}{G:List Nat}(g:GBuf 147 22 h X L (es.map Entry.cells) G) (n:Nat):∃ sh:Sh,Abs.frz h (n+2) L=some (.lst sh.sz (es.map Entry.av) sh.c) ∧ (es≠[] → sh.sz=22):=by
 have hr:∀ r∈es.map Entry.cells,r.length=22 ∧ r.all AV.scal=true:=g.1
 rcases g.2 with ⟨rfl,h2,_⟩ | ⟨eb,ver,frz,rfl,h2,_⟩
 ·have:es=[]:=by simpa using h2
  subst this
  exact ⟨⟨0,true⟩,rfl,fun h=>(h rfl).elim⟩
 ·refine ⟨⟨22,false⟩,?_,fun _=>rfl⟩
  rw [z0b (by decide) h2 (fun r hm=>(hr r hm).1) (zim fun x hx=>?_) hr rfl]
  ·rw [List.map_map];rfl
  ·obtain ⟨r,hm,hx⟩:=List.mem_flatten.1 hx
   obtain ⟨e,_,rfl⟩:=List.mem_map.1 hm
   exact zrp e x hx h
theorem z7t {h:zaa}{ps:List Nat}{L:AV}{I:List Nat}(r:Inr h ps L I) (n:Nat):∃ sh:Sh,Abs.frz h (n+2) L=some (.lst sh.sz ((ps.map fun p:Nat=>(p:Int)).map i64) sh.c) ∧ (ps≠[] → sh.sz=1):=by
 rcases r with ⟨rfl,rfl⟩ | ⟨eb,ver,frz,rfl,h2,_⟩
 ·exact ⟨⟨0,true⟩,rfl,fun h=>(h rfl).elim⟩
 ·refine ⟨⟨1,false⟩,?_,fun _=>rfl⟩
  rw [z7s h2,List.map_map]
  rfl
def z8j (f:Freed) (t:Nat × List Nat):Prop:=f.ver=t.1 ∧ f.pages=t.2.map (fun p:Nat=>(p:Int)) ∧ f.Ok
inductive FsAre:List Freed → List (Nat × List Nat) → Prop
 | nil:FsAre [] []
 | cons {f:Freed}{t:Nat × List Nat}{fs:List Freed}{ts:List (Nat × List Nat)}(h:z8j f t) (r:FsAre fs ts):FsAre (f::fs) (t::ts)
theorem FsAre.length_eq:∀ {fs:List Freed}{ts:List (Nat × List Nat)},FsAre fs ts → fs.length=ts.length
 | _,_,.nil=>rfl
 | _,_,.cons _ r=>by simp [r.length_eq]
theorem zum {h:zaa}{I:List Nat}(n:Nat):∀ {ts:List FT},(∀ t∈ts,Inr h t.2.1 t.2.2 I) → ∃ fs:List Freed,allM (Abs.frz h (n+2)) (ts.map rowF).flatten=some (fs.map Freed.cells).flatten ∧ FsAre fs (ts.map ofF)
 | [],_=>⟨[],rfl,.nil⟩
 | t::r,hi=>by
  obtain ⟨fs,h1,h2⟩:=zum n fun u hu=>hi u (List.mem_cons_of_mem _ hu)
  obtain ⟨sh,h3,h4⟩:=z7t (hi t (List.mem_cons_self ..)) n
  refine ⟨⟨t.1,sh,t.2.1.map fun p:Nat=>(p:Int)⟩::fs,?_,.cons ⟨rfl,rfl,fun q=>h4 fun e=>q (by show List.map _ t.2.1=[];rw [e];rfl)⟩ h2⟩
  refine zu2 (a:=rowF t) (a':=Freed.cells ⟨t.1,sh,t.2.1.map fun p:Nat=>(p:Int)⟩) ?_ h1
  show allM (Abs.frz h (n+2)) [i64 t.1,t.2.2]=some [i64 t.1,_]
  unfold allM allM
  rw [h3]
  rfl
theorem zuo {h:zaa}{Y:Nat}{LL:AV}{ts:List FT}{G I:List Nat}(v:LV h Y LL ts G I) (n:Nat):∃ (sh:Sh) (fs:List Freed),Abs.frz h (n+3) LL=some (.lst sh.sz (fs.map Freed.av) sh.c) ∧ (fs≠[] → sh.sz=2) ∧ FsAre fs (ts.map ofF):=by
 obtain ⟨fs,h1,h2⟩:=zum n v.inr
 rcases v.buf.2 with ⟨rfl,h3,_⟩ | ⟨eb,ver,frz,rfl,h3,_⟩
 ·have:ts=[]:=by simpa using h3
  subst this
  exact ⟨⟨0,true⟩,[],rfl,fun h=>(h rfl).elim,.nil⟩
 ·refine ⟨⟨2,false⟩,fs,?_,fun _=>rfl,h2⟩
  have e:=h2.length_eq
  rw [z0b (by decide) h3 (fun r hm=>(v.buf.1 r hm).1) h1 (fun r hm=>by
   obtain ⟨f,_,rfl⟩:=List.mem_map.1 hm
   exact ⟨rfl,rfl⟩) (by simpa using e)]
  rw [List.map_map];rfl
section
variable {n:Nat}{f:FuncId}{rc:RC}{args:List AV}{np nt d:Nat}{rs:List ResultVar}
theorem zev {S:CRes → Prop}(F:FunIs Tryz.prog cfg0.inl f np nt d rs rc) (hi:cfg0.inl f=false) (hs:cfg0.sum f args=none) (hl:args.length=np) (hp:zao args=true)
  (W:Wp Tryz.prog (C n) cfg0.inl KK nt d rc ⟨zde 0 args,[],[]⟩ (EndQ Tryz.prog (C n) cfg0.inl rs (fun r h=>∃ r',OutR r' r h ∧ S r'))):∃ r',(∀ h,C (n+1) f args h=some (r',h)) ∧ S r':=by
 obtain ⟨r,h',h1,r',ho,h2⟩:=zph F hl W
 have hlt:f<Tryz.prog.funcs.size:=by
  obtain ⟨fn,hfn,_⟩:=F.fn
  rcases Nat.lt_or_ge f Tryz.prog.funcs.size with h | h
  ·exact h
  ·rw [Array.getElem?_eq_none h] at hfn;cases hfn
 refine ⟨r',fun h=>?_,h2⟩
 show CN _ _ _ _ _ _=_
 unfold CN zcz
 simp only [hi,hs,Bool.false_eq_true,if_false,hp,hlt,decide_true,Bool.and_self,if_true]
 unfold zjp
 change zpi _ (zcz _ _ _ _ _) (zcy _ _ (zcz _ _ _ _ _)) _ _ _ _=_ at h1
 rw [h1]
 cases r with
 | ret v=>obtain ⟨w,e1,e2⟩:=ho;subst e2;simp only [CRes.map?,e1,Option.map_some]
 | pan v=>obtain ⟨w,e1,e2⟩:=ho;subst e2;simp only [CRes.map?,e1,Option.map_some]
end
def c206:RC :=
 (.seq (.ops [(oP 2 (.alloc 79 zPl)),(oP 3 (.alloc 4 [(.bool false)]))])
 (.seq (.ops [(oP 8 (.mkFn (.func 230) [] [(.t 2),(.t 3)])),
 ⟨none,none,.dfr { callee:=.value (.tmp 8),args:=#[],argTypes:=#[] }⟩])
 (.seq (.ops [(mV 9 0),(oP 10 (.sliceS (.t 9) none (some (.c (.int .i64 508))))),(oP 11 (.build [(.str []),(.int .i64 0)] [(0,1,(.t 10)),(1,1,(.c (.int .i64 1)))])),(oP 12 (.build [(.str []),(.int .i64 0)] [(0,2,(.t 11))])),(oP 13 (.box 312 (.t 12))),(mV 4 13)])
 (.seq (.ops [(mV 14 4),(oP 15 (.callF 229 [(.t 14),(.c (.int .i64 1))])),(oC 16 0 2),(oT 1 16 15)])
 (.seq (.ops [(mV 17 4),(oP 18 (.callF 229 [(.t 17),(.c (.int .i64 4))])),(oC 19 1 2),(oT 1 19 18)])
 (.seq (.ops [(mV 20 4),(oP 21 (.callF 229 [(.t 20),(.c (.int .i64 6))])),(oC 22 2 2),(oT 1 22 21)])
 (.cut (.seq (.seq (.ops [(mV 23 4),(oC 24 0 2),(oA 25 24),(oW 26 231 23 25)])
 (.block 0
 (.seq (.ops [(oP 27 (.asrt 296 true true (.t 26))),(oQ 28 27 1),(oQ 29 27 0)])
 (.cond (.t 28)
 (.seq (.ops [(oP 5 (.alloc 296 [(.int .i64 0),(.int .i64 0),(.bool false),(.lst 0 [] true)])),(oT 4 5 29)])
 (.draw [((oC 30 0 5),0),((oA 31 30),1),((oC 32 1 5),0),((oA 33 32),1),((oC 34 2 5),0),((oA 35 34),1),((oC 36 3 5),0),((oA 37 36),1),((oC 38 3 2),0),((oT 1 38 31),2),((oC 39 4 2),0),((oT 1 39 33),2),((oC 40 5 2),0),((oT 1 40 35),2),((oC 41 6 2),0),((oT 1 41 37),3)]))
 (.seq (.ops [(oP 42 (.asrt 292 true true (.t 26))),(oQ 43 42 1),(oQ 44 42 0)])
 (.cond (.t 43)
 (.seq (.ops [(oP 6 (.alloc 292 [(.int .i64 0),(.str [])])),(oT 2 6 44)])
 (.draw [((oC 45 0 6),0),((oA 46 45),1),((oC 47 1 6),0),((oA 48 47),1),((oC 49 7 2),0),((oT 1 49 46),2),((oC 50 8 2),0),((oT 1 50 48),3)]))
 (.seq (.ops [(oP 51 (.asrt 294 true true (.t 26))),(oQ 52 51 1),(oQ 53 51 0)])
 (.cond (.t 52)
 (.seq (.ops [(oP 7 (.alloc 294 [(.int .i64 0),(.lst 0 [] true)])),(oT 2 7 53)])
 (.draw [((oC 54 0 7),0),((oA 55 54),1),((oC 56 1 7),0),((oA 57 56),1),((oC 58 7 2),0),((oT 1 58 55),2),((oC 59 9 2),0),((oT 1 59 57),3)]))
 .skip))))))))
 (.seq (.ops [(oB 60 10 2),(oT 10 2 60),(oU (.store 1 (.t 3) (.c (.bool true))))])
 .ret)))))))))
theorem F206:FI 206 1 61 6 [.cell 2 79,.cell 3 4] c206:=mkF Tryz.f206 Tryz.func206
def c230:RC :=
 (.seq (.ops [(oP 5 (.raw { dst:=(some 5),op:=(.call { callee:=.builtin .recover,args:=#[],argTypes:=#[] }),type:=20,pos := "block.go:262",after:=#[],guard:=none })),(mV 2 5)])
 (.seq (.ops [(mV 6 2),(oP 7 (.isNilI true (.t 6)))])
 (.cond (.t 7)
 (.seq (.seq (.ops [(mV 9 2),(oP 10 (.asrt 314 true true (.t 9))),(mV 8 10),(oQ 11 8 0),(oQ 12 8 1),(oP 3 (.alloc 314 [])),(oT 0 3 11),(mV 4 12)])
 (.seq (.ops [(mV 13 4),(oP 14 (.un .not (.t 13)))])
 (.cond (.t 14)
 (.ops [(mV 15 2),
 ⟨none,none,.pan (.t 15)⟩])
 .skip)))
 (.ops [(oP 16 (.build zPl [])),(oT 10 0 16),(oU (.store 1 (.t 1) (.c (.bool false))))]))
 .skip)))
def c205:RC :=
 (.seq (.ops [(oH 2 0),(oH 3 0),(oH 4 0),(oH 5 0)])
 (.seq (.seq (.ops [(mV 7 0),(oP 8 (.lenS (.t 7))),(oJ 9 .neq 8 512),(mV 10 9),(oE 11 10 false 0),(oG 12 10 false (.indexS (.t 11) (.c (.int .i64 0)))),(oG 13 10 false (.bin .neq (.t 12) (.c (.int .u8 85)))),(oM 14 10 13),(mV 15 14),(oE 16 15 false 0),(oG 17 15 false (.sliceS (.t 16) none (some (.c (.int .i64 508))))),(oG 18 15 false (.callF 179 [(.t 17)])),(oE 19 15 false 0),(oG 20 15 false (.bin .neq (.t 18) (.t 19))),(oM 21 15 20),(mV 22 21),(oE 23 22 false 0),(oG 24 22 false (.indexS (.t 23) (.c (.int .i64 1)))),(oG 25 22 false (.toInt .i64 (.t 24))),(oG 26 22 false (.callF 191 [(.t 25),(.c (.int .i64 1)),(.c (.int .i64 4))])),(oG 27 22 false (.un .not (.t 26))),(oM 28 22 27)])
 (.cond (.t 28)
 (.seq (.ops [(oH 2 0),(oH 3 0),(oH 4 0),(oH 5 8)])
 .ret)
 .skip))
 (.seq (.ops [(mV 29 0),(oP 30 (.build [(.str []),(.int .i64 0)] [(0,1,(.t 29)),(1,1,(.c (.int .i64 1)))])),(oP 31 (.build [(.str []),(.int .i64 0)] [(0,2,(.t 30))])),(oP 32 (.box 312 (.t 31))),(mV 6 32)])
 (.seq (.ops [(mV 33 6),(oP 34 (.callF 229 [(.t 33),(.c (.int .i64 1))])),(mV 2 34)])
 (.seq (.ops [(mV 35 6),(oP 36 (.callF 229 [(.t 35),(.c (.int .i64 4))])),(mV 3 36)])
 (.seq (.ops [(mV 37 6),(oP 38 (.callF 229 [(.t 37),(.c (.int .i64 6))])),(mV 4 38)])
 (.seq (.ops [(mV 39 2),(mV 40 3),(mV 41 4),(mV 2 39),(mV 3 40),(mV 4 41),(oH 5 0)])
 .ret)))))))
theorem F205:FI 205 1 42 6 [.tmp 2,.tmp 3,.tmp 4,.tmp 5] c205:=mkF Tryz.f205 Tryz.func205
def c162:RC :=
 (.seq (.ops [(oP 2 (.alloc 79 zPl)),(oH 3 0)])
 (.seq (.seq (.ops [(mV 13 0),(oV 14 205 13),(mV 12 14),(oQ 15 12 0),(oQ 16 12 1),(oQ 17 12 2),(oQ 18 12 3),(mV 4 15),(mV 5 16),(mV 6 17),(mV 7 18)])
 (.seq (.ops [(mV 19 7),(oJ 20 .neq 19 0)])
 (.cond (.t 20)
 (.seq (.ops [(oP 21 (.build zPl [])),(mV 22 7),(oT 10 2 21),(mV 3 22)])
 .ret)
 .skip)))
 (.seq (.ops [(mV 24 0),(oV 25 206 24),(mV 23 25),(oQ 26 23 0),(oQ 27 23 1),(oP 8 (.alloc 79 zPl)),(oT 10 8 26),(mV 9 27)])
 (.seq (.seq (.ops [(mV 28 9),(oP 29 (.un .not (.t 28))),(mV 30 29),(oG 31 30 false (.load true 10 (.t 8))),(oG 32 30 false (.callF 143 [(.t 31)])),(oG 33 30 false (.bin .neq (.t 32) (.c (.int .i64 0)))),(oM 34 30 33)])
 (.cond (.t 34)
 (.seq (.ops [(oP 35 (.build zPl [])),(oT 10 2 35),(oH 3 8)])
 .ret)
 .skip))
 (.seq (.ops [(oB 37 10 8),(oV 38 119 37),(mV 36 38),(oQ 39 36 0),(oQ 40 36 1),(mV 10 39),(mV 11 40)])
 (.seq (.seq (.ops [(mV 41 10),(oV 42 207 41),(mV 43 0),(oV 44 207 43),(oP 45 (.cmp true 282 (.t 42) (.t 44)))])
 (.cond (.t 45)
 (.seq (.ops [(oP 46 (.build zPl [])),(oT 10 2 46),(oH 3 8)])
 .ret)
 .skip))
 (.seq (.ops [(oB 47 10 8),(oT 10 2 47),(oH 3 0)])
 .ret)))))))
theorem F162:FI 162 1 48 6 [.cell 2 79,.tmp 3] c162:=mkF Tryz.f162 Tryz.func162
end Go.Proofs
