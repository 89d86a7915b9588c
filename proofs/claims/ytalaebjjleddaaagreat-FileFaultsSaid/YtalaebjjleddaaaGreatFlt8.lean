/- Texts put together: Cl, Inc, C0, Tb, Wb, Wc, Wd0, Wd, Rb, Rc, We, Rd, Rh0, Re, Rf. -/
import Derived.Lib.AppendZeros
import Derived.Shelf.Slices.Clone
import Derived.Test.YtalaebjjleddaaaGreatFlt7
set_option linter.unusedVariables false
set_option linter.unusedSimpArgs false
namespace Go.Abs
def zr9 (k:Nat) (args:List AV) (h:zaa):Option (AV × zaa):=match args with
 | [.lst _ [] _]=>some (.lst k [] true,h)
 | _=>none
section
variable {P:Program}{n₀:Nat}{w₀ w:World}{S₀ S:SM}{m:BM}{h:zaa}
theorem zlr {k:Nat}(hk:k≠0) {a:Option Addr}:VR S m (.lst k [] true) (.slice a 0 0):=by
 unfold VR
 exact ⟨a,0,rfl,Nat.zero_le _,fun _=>⟨rfl,fun q=>(hk q).elim⟩,fun q=>(q rfl).elim⟩
theorem zo3 {f:FuncId}{k:Nat}(hk:k≠0) (hc:zyb P f) {args:List AV}{v:AV}{h':zaa}(he:zr9 k args h=some (v,h')) {vs:Array Value}(s:Sim n₀ w₀ S₀ S m h w) (hv:VRs S m args vs.toList):Calls P f vs w (CQ n₀ w₀ S₀ S m (.ret v) h'):=by
 unfold zr9 at he
 split at he
 ·cases he
  obtain ⟨x,rfl,hx⟩:=z2i hv
  unfold VR at hx
  obtain ⟨a,cap,rfl,_⟩:=hx
  cases a with
  | none =>
   refine (hc.1 _ _ w).mono fun e w' hq=>?_
   obtain ⟨rfl,rfl⟩:=hq
   exact ⟨S,m,SM.le_refl _,BM.le_refl _,s,_,rfl,zlr hk⟩
  | some a =>
   refine (hc.2 _ _ w).mono fun e w' hq=>?_
   obtain ⟨p,rfl,hb⟩:=hq
   have g:=s.called (w':=w') (SM.le_refl _) (fun b o v hv=>?_) (fun b o v hv=>.inl hv) hb.size (fun c hc=>hb.block c hc) ⟨hb.os,hb.output,hb.tape⟩
   ·exact ⟨S,m,SM.le_refl _,BM.le_refl _,g,_,rfl,zlr hk⟩
   ·have h1:=s.stable b o v hv
    have h2:=s.bound hv
    unfold World.cell? at h1 ⊢
    simp only at h1 ⊢
    rw [hb.block b h2]
    exact h1
 ·cases he
end
def memB (fI fW:FuncId) (f:FuncId) (args:List AV) (h:zaa):Option (AV × zaa):=cond (Nat.beq f fI) (zr9 1 args h) (cond (Nat.beq f fW) (zr9 2 args h) none)
theorem z2t {P:Program}{fI fW:FuncId}(hi:zyb P fI) (hw:zyb P fW):zx7 P (memB fI fW):=fun f args h v h' he n₀ w₀ S₀ S m w vs s hv=>by
 unfold memB at he
 cases e1:Nat.beq f fI with
 | true =>
  have:f=fI:=Nat.eq_of_beq_eq_true e1
  subst this
  rw [e1] at he
  exact zo3 (by decide) hi he s hv
 | false =>
  rw [e1] at he
  simp only [cond_false] at he
  cases e2:Nat.beq f fW with
  | true =>
   have:f=fW:=Nat.eq_of_beq_eq_true e2
   subst this
   rw [e2] at he
   exact zo3 (by decide) hw he s hv
  | false=>rw [e2] at he;cases he
end Go.Abs
namespace Go.Proofs
open Go.Shelf
theorem tiI:∃ d,Go.Abs.ti Tryz.prog 3=some d:=Option.isSome_iff_exists.1 (by kernel_rfl)
theorem tiW:∃ d,Go.Abs.ti Tryz.prog 52=some d:=Option.isSome_iff_exists.1 (by kernel_rfl)
open Go.Abs in
theorem zt3 (p:Option Addr) (a:Addr) (c:Nat) (w:World):(Builtin.append_ #[44,44] 44 #[.slice p 0 0,.slice (some a) 0 c]).run Tryz.prog w=.ok (.slice p 0 0) w:=by
 obtain ⟨d,hd⟩:=tiI
 refine zdn (e:=3) (du:=.slice 3) (len:=0) (n:=0) (us:=[]) Tryz.underlying44 Tryz.underlying44 (fun k q=>by cases q) hd ?_ ?_ (Nat.le_refl _) ?_
 ·simp [Builtin.lenOf]
 ·simp [Builtin.firstCells,loadCells,loadCellsFrom]
 ·cases p<;>simp [storeCells]
open Go.Abs in
theorem zt0 (p:Option Addr) (a:Addr) (c:Nat) (w:World):(Builtin.append_ #[43,43] 43 #[.slice p 0 0,.slice (some a) 0 c]).run Tryz.prog w=.ok (.slice p 0 0) w:=by
 obtain ⟨d,hd⟩:=tiW
 refine zdn (e:=52) (du:=.slice 52) (len:=0) (n:=0) (us:=[]) Tryz.underlying43 Tryz.underlying43 (fun k q=>by cases q) hd ?_ ?_ (Nat.le_refl _) ?_
 ·simp [Builtin.lenOf]
 ·simp [Builtin.firstCells,loadCells,loadCellsFrom]
 ·cases p<;>simp [storeCells]
open Go.RowKit Go.Lib in
theorem zqo (a:Addr) (c:Nat) (w:World):Calls Tryz.prog 128 #[.slice (some a) 0 c] w fun e w'=>∃ p,e=.returned (.slice p 0 0) ∧ Below w.heap.size w w':=by
 have q22:∀ (w:World) (a:Option Addr) (n c n' c':Nat),(binOp .eql 44 (.slice a n c) (.slice none n' c')).run Tryz.prog w=.ok (.bool a.isNone) w:=fun w a n c n' c'=>Lib.run_eql_slice_nil w _ _ a n c n' c' Tryz.underlying44
 go_enter Tryz.func128,Tryz.ntmps128
 go_wp2_with (at_builtin;refine Lib.wpList_append_run _ rfl _ _ 44 44 rfl _ _ rfl rfl _ _ (zt3 _ _ _ _) ?_)
 go_wp2
 go_ret
 exact ⟨_,rfl,(Below.refl _ w).alloc (Nat.le_refl _) _⟩
open Go.RowKit Go.Lib in
theorem zt4 (n c:Nat) (w:World):Calls Tryz.prog 128 #[.slice none n c] w fun e w'=>e=.returned (.slice none 0 0) ∧ w'=w:=by
 have q22:∀ (w:World) (a:Option Addr) (n c n' c':Nat),(binOp .eql 44 (.slice a n c) (.slice none n' c')).run Tryz.prog w=.ok (.bool a.isNone) w:=fun w a n c n' c'=>Lib.run_eql_slice_nil w _ _ a n c n' c' Tryz.underlying44
 go_enter Tryz.func128,Tryz.ntmps128
 go_wp2
 go_ret
 exact ⟨rfl,rfl⟩
open Go.RowKit Go.Lib in
theorem zqn (a:Addr) (c:Nat) (w:World):Calls Tryz.prog 185 #[.slice (some a) 0 c] w fun e w'=>∃ p,e=.returned (.slice p 0 0) ∧ Below w.heap.size w w':=by
 have q22:∀ (w:World) (a:Option Addr) (n c n' c':Nat),(binOp .eql 43 (.slice a n c) (.slice none n' c')).run Tryz.prog w=.ok (.bool a.isNone) w:=fun w a n c n' c'=>Lib.run_eql_slice_nil w _ _ a n c n' c' Tryz.underlying43
 go_enter Tryz.func185,Tryz.ntmps185
 go_wp2_with (at_builtin;refine Lib.wpList_append_run _ rfl _ _ 43 43 rfl _ _ rfl rfl _ _ (zt0 _ _ _ _) ?_)
 go_wp2
 go_ret
 exact ⟨_,rfl,(Below.refl _ w).alloc (Nat.le_refl _) _⟩
open Go.RowKit Go.Lib in
theorem zt1 (n c:Nat) (w:World):Calls Tryz.prog 185 #[.slice none n c] w fun e w'=>e=.returned (.slice none 0 0) ∧ w'=w:=by
 have q22:∀ (w:World) (a:Option Addr) (n c n' c':Nat),(binOp .eql 43 (.slice a n c) (.slice none n' c')).run Tryz.prog w=.ok (.bool a.isNone) w:=fun w a n c n' c'=>Lib.run_eql_slice_nil w _ _ a n c n' c' Tryz.underlying43
 go_enter Tryz.func185,Tryz.ntmps185
 go_wp2
 go_ret
 exact ⟨rfl,rfl⟩
open Go.Abs in
theorem z2s:zx7 Tryz.prog (memB 128 185):=z2t ⟨zt4,zqo⟩ ⟨zt1,zqn⟩
end Go.Proofs
namespace Go.Proofs
open Go Go.Abs
def insA (args:List AV) (h:zaa):Option (AV × zaa):=match args with
 | [.lst sz xs _,.int .i64 x]=>match zp8 xs with
  | some zs=>if (xs=[] ∨ sz=1) ∧ zs.Pairwise (· ≤ ·) ∧ zs.length<1099511627776 then some (.lst 1 ((insZ zs x).map (AV.int .i64)) false,h) else none
  | none=>none
 | _=>none
section
variable {S:SM}{m:BM}
theorem er_of {g:Nat}:∀ (l:List Int) (q:Nat),(∀ j v,(l.map vI)[j]?=some v → S g (q+j)=some v) → ER S m 1 (l.map (AV.int .i64)) g q
 | [],q,h=>by unfold ER;trivial
 | k::r,q,h=>by
  rw [List.map_cons,ER.cons_iff]
  refine ⟨⟨vI k,h 0 (vI k) rfl,by unfold VR;rfl⟩,er_of r (q+1) fun j v hj=>?_⟩
  rw [show q+1+j=q+(j+1) by omega]
  exact h (j+1) v hj
theorem er_to {g:Nat}:∀ (l:List Int) (q:Nat),ER S m 1 (l.map (AV.int .i64)) g q → ∀ j,j<l.length → S g (q+j)=some (vI (l.getD j 0))
 | [],q,h,j,hj=>absurd hj (Nat.not_lt_zero _)
 | k::r,q,h,j,hj=>by
  rw [List.map_cons,ER.cons_iff] at h
  obtain ⟨⟨v,h1,h2⟩,h3⟩:=h
  cases j with
  | zero =>
   unfold VR at h2
   subst h2
   exact h1
  | succ j =>
   have:=er_to r (q+1) h3 j (by simpa using hj)
   rw [show q+(j+1)=q+1+j by omega,this]
   rfl
end
section
variable {n₀:Nat}{w₀ w:World}{S₀ S:SM}{m:BM}{h:zaa}
theorem zil {zs:List Int}(s:Sim n₀ w₀ S₀ S m h w) {e:Ending}{w':World}(q:∃ g cap',e=.returned (.slice (some ⟨g,0,none⟩) zs.length cap') ∧ zs.length ≤ cap' ∧ w.heap.size ≤ g ∧ (∀ j v,(zs.map vI)[j]?=some v → w'.cell? ⟨g,j,none⟩=some v) ∧ Go.RowKit.Below w.heap.size w w'):CQ n₀ w₀ S₀ S m (.ret (.lst 1 (zs.map (AV.int .i64)) false)) h e w':=by
 obtain ⟨g,cap',rfl,a1,a2,a3,hb⟩:=q
 have hno:∀ o v,S g o=some v → False:=fun o v hv=>by have:=s.bound hv;omega
 have hle:SM.le S (fun b o=>if b=g then (zs.map vI)[o]? else S b o):=fun b o v hv=>by
  show (if b=g then (zs.map vI)[o]? else S b o)=some v
  by_cases c:b=g
  ·subst c;exact (hno o v hv).elim
  ·rw [if_neg c];exact hv
 have gg:=s.called (w':=w') hle (fun b o v hv=>?_) (fun b o v hv=>?_) hb.size (fun c hc=>hb.block c hc) ⟨hb.os,hb.output,hb.tape⟩
 ·refine ⟨_,m,hle,BM.le_refl _,gg,_,rfl,?_⟩
  unfold VR
  exact ⟨_,cap',by simp,by simpa using a1,(fun q=>by cases q),fun _=>⟨g,0,rfl,er_of zs 0 fun j v hj=>by simp only [if_true,Nat.zero_add];exact hj⟩⟩
 ·have hv:(if b=g then (zs.map vI)[o]? else S b o)=some v:=hv
  by_cases c:b=g
  ·subst c
   rw [if_pos rfl] at hv
   exact a3 o v hv
  ·rw [if_neg c] at hv
   have h1:=s.stable b o v hv
   have h2:=s.bound hv
   unfold World.cell? at h1 ⊢
   simp only at h1 ⊢
   rw [hb.block b h2]
   exact h1
 ·have hv:(if b=g then (zs.map vI)[o]? else S b o)=some v:=hv
  by_cases c:b=g
  ·subst c;exact .inr a2
  ·rw [if_neg c] at hv;exact .inl hv
theorem ins_ok {args:List AV}{v:AV}{h':zaa}(he:insA args h=some (v,h')) {vs:Array Value}(s:Sim n₀ w₀ S₀ S m h w) (hv:VRs S m args vs.toList):Calls Tryz.prog 133 vs w (CQ n₀ w₀ S₀ S m (.ret v) h'):=by
 unfold insA at he
 split at he
 ·rename_i sz xs c x
  split at he
  ·rename_i zs hz
   split at he
   ·rename_i hq
    obtain ⟨hs,hp,hl⟩:=hq
    cases he
    have:=zrw hz
    subst this
    have hlen:(zs.map (AV.int .i64)).length=zs.length:=List.length_map ..
    unfold VRs VRs VRs at hv
    obtain ⟨v1,r1,h1,⟨a,cap,rfl,hcap,_,h3⟩,v2,r2,rfl,h4,rfl⟩:=hv
    unfold VR at h4
    subst h4
    obtain rfl:vs=#[.slice a zs.length cap,.int .i64 x]:=by apply Array.toList_inj.1;rw [h1,hlen]
    by_cases hne:zs=[]
    ·subst hne
     have e1:insZ [] x=[x]:=rfl
     rw [e1]
     cases a with
     | none=>exact (zoc cap x w).mono fun e w' q=>zil (zs:=[x]) s q
     | some a=>exact (zmp a cap x w).mono fun e w' q=>zil (zs:=[x]) s q
    ·have hne':zs.map (AV.int .i64)≠[]:=by simpa using hne
     obtain ⟨B,q,rfl,hE⟩:=h3 hne'
     obtain rfl:=hs.resolve_left hne'
     have hc:=er_to zs q hE
     have hcell:∀ j,j<zs.length → w.cell? ⟨B,q+j,none⟩=some (.int .i64 (zs.getD j 0)):=fun j hj=>s.stable B (q+j) _ (hc j hj)
     cases hx:zs.contains x with
     | false=>exact (zqa B q cap zs x w hne hl hcell hp hx).mono fun e w' q=>zil s q
     | true=>exact (zp9 B q cap zs x w hne hl hcell hp hx).mono fun e w' q=>zil s q
   ·cases he
  ·cases he
 ·cases he
end
def memI (f:FuncId) (args:List AV) (h:zaa):Option (AV × zaa):=cond (Nat.beq f 133) (insA args h) (memB 128 185 f args h)
theorem z2r:zx7 Tryz.prog memI:=fun f args h v h' he n₀ w₀ S₀ S m w vs s hv=>by
 unfold memI at he
 cases e1:Nat.beq f 133 with
 | true =>
  have:f=133:=Nat.eq_of_beq_eq_true e1
  subst this
  rw [e1] at he
  exact ins_ok he s hv
 | false =>
  rw [e1] at he
  exact z2s f args h v h' he n₀ w₀ S₀ S m w vs s hv
def sum0:FuncId → List AV → Option AV:=fun f args=>cond (Nat.beq f 14) (match args with | []=>some (.bool true) | _=>none) (sum1 f args)
def mem0:FuncId → List AV → zaa → Option (AV × zaa):=memI
def cfg0:Cfg:=⟨inl0,sum0,mem0,fun _=>false⟩
noncomputable abbrev C (n:Nat):zba:=CN Tryz.prog cfg0 n
theorem zxb {n:Nat}{h:zaa}(hn:1 ≤ n) (s:Str) (hs:s.length<1099511627776):C n 135 [.str s] h=some (.ret (u32 (crc s)),h):=by
 obtain ⟨m,rfl⟩:=pre1 n
 refine zwm rfl (of_decide_eq_true (by kernel_rfl)) ?_ rfl
 show cond (Nat.blt s.length 1099511627776) (some (AV.int .u32 (Int.ofNat (crcN s)))) none=some (u32 (crc s))
 rw [show Nat.blt s.length 1099511627776=true by rw [Nat.blt_eq];exact hs,zxa]
 rfl
theorem z1v {n:Nat}(hn:1 ≤ n) (h:zaa):C n 14 [] h=some (.ret (.bool true),h):=by
 obtain ⟨m,rfl⟩:=pre1 n
 exact zwm rfl (of_decide_eq_true (by kernel_rfl)) rfl rfl
structure Dg where
 (b0 b1 b2 b3 b4 b5 b6 b7 b8 b9 b10 b11 b12 b13 b14 b15:UInt8)
 deriving DecidableEq
structure Entry where
 key:Str
 val:Str
 over:Int
 len:Int
 child:Int
 count:Int
 sum:Dg
 deriving DecidableEq
def Dg.cells (d:Dg):List AV:=[u8 d.b0,u8 d.b1,u8 d.b2,u8 d.b3,u8 d.b4,u8 d.b5,u8 d.b6,u8 d.b7,u8 d.b8,u8 d.b9,u8 d.b10,u8 d.b11,u8 d.b12,u8 d.b13,u8 d.b14,u8 d.b15]
def Entry.cells (e:Entry):List AV:=.str e.key::.str e.val::i64 e.over::i64 e.len::i64 e.child::i64 e.count::e.sum.cells
def Entry.av (e:Entry):AV:=.agg e.cells
def Dg.zero:Dg:=⟨0,0,0,0,0,0,0,0,0,0,0,0,0,0,0,0⟩
def za3 (x lo hi:Int):Bool:=decide (lo ≤ x)&&decide (x ≤ hi)
def za6 (n:Int):Bool:=za3 n 2 4095
section
variable {n:Nat}{h:zaa}
theorem zcc (hn:1 ≤ n) (x lo hi:Int):C n 191 [i64 x,i64 lo,i64 hi] h=some (.ret (.bool (za3 x lo hi)),h):=by
 obtain ⟨m,rfl⟩:=pre1 n
 refine zak F191 rfl rfl rfl rfl ?_
 refine br (fun a=>?_) (fun a=>?_)
 ·exact ⟨rfl,_,rfl,zas (by simp [za3,a])⟩
 ·exact ⟨rfl,_,rfl,zas (by simp [za3,a])⟩
theorem zdk (hn:2 ≤ n) (x:Int):C n 190 [i64 x] h=some (.ret (.bool (za6 x)),h):=by
 obtain ⟨m,rfl⟩:=pre1 n
 refine zak F190 rfl rfl rfl rfl ?_
 refine clI (zcc (by omega) _ _ _) ?_
 exact ⟨rfl,_,rfl,zas rfl⟩
theorem zrt (hn:1 ≤ n) (x:Str):C n 258 [.str x] h=some (.ret (.bool false),h):=by
 obtain ⟨m,rfl⟩:=pre1 n
 refine zak F258 rfl rfl rfl rfl ?_
 exact ⟨rfl,_,rfl,zas (by simp)⟩
def cmpS (x y:Str):Int:=if Op.bytesLess x y then -1 else if Op.bytesLess y x then 1 else 0
theorem zjf:∀ (x:Str),Op.bytesLess x x=false
 | []=>rfl
 | a::x=>by simp [Op.bytesLess,zjf x]
theorem zlh:∀ (x y:Str),Op.bytesLess x y=true → Op.bytesLess y x=false
 | [],[],h=>by simp [Op.bytesLess] at h
 | [],b::y,_=>by simp [Op.bytesLess]
 | a::x,[],h=>by simp [Op.bytesLess] at h
 | a::x,b::y,h=>by
  simp [Op.bytesLess] at h ⊢
  rcases h with h | ⟨h1,h2⟩
  ·exact ⟨UInt8.le_of_lt h,fun e=>by subst e;simp at h⟩
  ·subst h1;exact ⟨UInt8.le_refl _,fun _=>zlh x y h2⟩
theorem zlg:∀ (x y:Str),Op.bytesLess x y=false → Op.bytesLess y x=false → x=y
 | [],[],_,_=>rfl
 | [],b::y,h,_=>by simp [Op.bytesLess] at h
 | a::x,[],_,h=>by simp [Op.bytesLess] at h
 | a::x,b::y,h1,h2=>by
  simp [Op.bytesLess] at h1 h2
  have e:a=b:=UInt8.le_antisymm h2.1 h1.1
  subst e
  rw [zlg x y (h1.2 rfl) (h2.2 rfl)]
theorem zhe (x y:Str):(Op.bytesLess x y||x==y)=!Op.bytesLess y x:=by
 cases h:Op.bytesLess x y with
 | true=>simp [zlh x y h]
 | false =>
  cases h2:Op.bytesLess y x with
  | true =>
   simp
   intro e;subst e;rw [zjf] at h2;cases h2
  | false=>simp [zlg x y h h2]
theorem zm1 (hn:2 ≤ n) (x y:Str):C n 254 [.str x,.str y] h=some (.ret (i64 (cmpS x y)),h):=by
 obtain ⟨m,rfl⟩:=pre1 n
 refine zak F254 rfl rfl rfl rfl ?_
 refine clI (zrt (by omega) _) ?_
 refine clI (zrt (by omega) _) ?_
 refine br (fun a=>?_) (fun a=>?_)
 ·exact ⟨rfl,_,rfl,zbw (by simp [cmpS,a])⟩
 ·refine br (fun b=>?_) (fun b=>?_)
  ·rw [zhe] at b
   exact ⟨rfl,_,rfl,zbw (by simp at b;simp [cmpS,a,b])⟩
  ·rw [zhe] at b
   exact ⟨rfl,_,rfl,zbw (by simp at b;simp [cmpS,a,b])⟩
theorem ztz (hn:3 ≤ n) (x y:Str):C n 245 [.str x,.str y] h=some (.ret (i64 (cmpS x y)),h):=by
 obtain ⟨m,rfl⟩:=pre1 n
 refine zak F245 rfl rfl rfl rfl ?_
 refine clI (zm1 (by omega) _ _) ?_
 exact ⟨rfl,_,rfl,zbw rfl⟩
def zbq (e:Entry):Bool:=decide (e.key.length ≤ 48)&&e.val==[]&&e.over==0&&e.len==0&&za6 e.child&&za3 e.count 1 2147483647
theorem zj5 (hn:3 ≤ n) (e:Entry):C n 244 [e.av] h=some (.ret (.bool (zbq e)),h):=by
 obtain ⟨m,rfl⟩:=pre1 n
 refine zak F244 rfl rfl rfl rfl ?_
 repeat' (conv=>whnf);first
  | refine br (fun _=>?_) (fun _=>?_)
  | refine ldI rfl ?_
  | refine clI (zdk (by omega) _) ?_
  | refine clI (zcc (by omega) _ _ _) ?_
  | refine retP rfl (zas ?_)
 all_goals simp_all [zbq]
 all_goals omega
def zei (e:Entry):Bool:=e.over==0&&e.len==0&&e.child==0&&e.count==0&&e.sum==Dg.zero&&decide (e.val.length ≤ 64)
def zjh (e:Entry):Bool:=e.child==0&&e.count==0&&za6 e.over&&za3 e.len 65 4000
def zjg (e:Entry):Bool:=e.over==0&&e.len==0&&za6 e.child&&za3 e.count 1 2147483647
def zaz (e:Entry):Int:=if za3 e.key.length 1 48=false then 0 else if zei e then 1 else if e.val≠[] then 0 else if zjh e then 2 else if zjg e then 3 else 0
def Dg.list (d:Dg):List UInt8:=[d.b0,d.b1,d.b2,d.b3,d.b4,d.b5,d.b6,d.b7,d.b8,d.b9,d.b10,d.b11,d.b12,d.b13,d.b14,d.b15]
theorem Dg.list_inj {a b:Dg}:a.list=b.list ↔ a=b:=by
 constructor
 ·intro h
  obtain ⟨a0,a1,a2,a3,a4,a5,a6,a7,a8,a9,a10,a11,a12,a13,a14,a15⟩:=a
  obtain ⟨c0,c1,c2,c3,c4,c5,c6,c7,c8,c9,c10,c11,c12,c13,c14,c15⟩:=b
  simpa [Dg.list] using h
 ·intro h;rw [h]
theorem zqi (x y:UInt8):((((x.toNat:Nat):Int)==y.toNat):Bool)=decide (x=y):=by
 by_cases h:x=y
 ·subst h;simp
 ·simp [h];intro h';exact h (UInt8.toNat_inj.1 (by omega))
theorem zep {f:Nat → AV → AV → Option Bool}{t:Nat}(hf:∀ x y,f t (u8 x) (u8 y)=some (decide (x=y))):∀ (xs ys:List UInt8),xs.length=ys.length → zcz f (zipE t (xs.map u8) (ys.map u8))=some (decide (xs=ys))
 | [],[],_=>rfl
 | [],y::ys,h=>by simp at h
 | x::xs,[],h=>by simp at h
 | x::xs,y::ys,h=>by
  have ih:=zep hf xs ys (by simpa using h)
  show (match f t (u8 x) (u8 y) with | some true=>zcz f (zipE t (xs.map u8) (ys.map u8)) | some false=>some false | none=>none)=_
  rw [hf,ih]
  by_cases h:x=y<;>simp [h]
theorem eq_dg (a b:Dg):eqA Tryz.prog 20 23 (.agg a.cells) (.agg b.cells)=some (decide (a=b)):=by
 have e1:eqA Tryz.prog 20 23 (.agg a.cells) (.agg b.cells)=zcz (eqA Tryz.prog 19) (zipE 5 (a.list.map u8) (b.list.map u8)):=by kernel_rfl
 have e2:∀ (x y:UInt8),eqA Tryz.prog 19 5 (.int .u8 x.toNat) (.int .u8 y.toNat)=some (((x.toNat:Nat):Int)==y.toNat):=fun x y=>by kernel_rfl
 rw [e1,zep (fun x y=>by rw [e2,zqi]) a.list b.list rfl]
 simp only [Dg.list_inj]
theorem zoi (hn:3 ≤ n) (e:Entry):C n 243 [e.av] h=some (.ret (i64 (zaz e)),h):=by
 obtain ⟨m,rfl⟩:=pre1 n
 refine zak F243 rfl rfl rfl rfl ?_
 repeat' (conv=>whnf);first
  | refine br (fun _=>?_) (fun _=>?_)
  | refine ldI rfl ?_
  | refine clI (zdk (by omega) _) ?_
  | refine clI (zcc (by omega) _ _ _) ?_
  | refine eqI (eq_dg e.sum Dg.zero) ?_
  | refine retP rfl (zbw ?_)
 all_goals simp_all [zaz,zei,zjh,zjg]
 all_goals omega
def zer (e:Entry) (lv:Int):Int:=if 0<lv then e.key.length+27 else if zaz e=1 then e.key.length+e.val.length+5 else if zaz e=2 then e.key.length+27 else if zaz e=3 then e.key.length+29 else 0
def zde (e:Entry) (lv:Int):Bool:=if 0<lv then zbq e else zaz e==1||zaz e==2||zaz e==3
def Entry.Ok (e:Entry):Prop:=e.key.length<1099511627776 ∧ e.val.length<1099511627776
theorem zyf (hn:4 ≤ n) (e:Entry) (he:e.Ok) (lv:Int):C n 246 [e.av,i64 lv] h=some (.ret (.tup [i64 (zer e lv),.bool (zde e lv)]),h):=by
 obtain ⟨m,rfl⟩:=pre1 n
 obtain ⟨h1,h2⟩:=he
 refine zak F246 rfl rfl rfl rfl ?_
 repeat' (conv=>whnf);first
  | refine br (fun _=>?_) (fun _=>?_)
  | refine ldI rfl ?_
  | refine clI (zj5 (by omega) e) ?_
  | refine clI (zoi (by omega) e) ?_
  | refine zI (zad (by omega) (by omega)) ?_
  | refine retP rfl (frz_ib ?_ ?_)
 all_goals simp_all [zer,zde]
 all_goals (intros;omega)
def wsum (lv:Int):List Entry → Option Int
 | []=>some 0
 | e::r=>if zde e lv then (wsum lv r).map (zer e lv+·) else none
def zgo (l:List Entry) (lv:Int):Option Int:=if za3 lv 0 20 then (wsum lv l).map (6+·) else none
def zhg (l:List Entry) (lv:Int):AV:=match zgo l lv with
 | some n=>.tup [i64 n,i64 0]
 | none=>.tup [i64 0,i64 2]
theorem zgb (lv:Int):∀ (a b:List Entry),wsum lv (a++b)=match wsum lv a,wsum lv b with | some x,some y=>some (x+y) | _,_=>none
 | [],b=>by cases h:wsum lv b<;>simp [wsum,h]
 | e::a,b=>by
  simp only [List.cons_append,wsum,zgb lv a b]
  by_cases hw:zde e lv
  ·simp only [hw,if_true]
   cases wsum lv a<;>cases wsum lv b<;>simp
   omega
  ·simp [hw]
theorem within_iff {x lo hi:Int}:za3 x lo hi=true ↔ lo ≤ x ∧ x ≤ hi:=by simp [za3]
theorem zmu {e:Entry}(hf:zaz e≠0):1 ≤ e.key.length ∧ e.key.length ≤ 48:=by
 by_cases h:za3 e.key.length 1 48
 ·rw [within_iff] at h;omega
 ·simp [zaz,h] at hf
theorem ztj {e:Entry}(hf:zaz e=1):e.val.length ≤ 64:=by
 by_cases hs:zei e
 ·simp [zei] at hs;exact hs.2
 ·simp only [zaz,hs] at hf
  split at hf
  ·simp at hf
  ·simp at hf
   repeat' (first | split at hf)
   all_goals simp at hf
theorem ziq {e:Entry}{lv:Int}(hb:zde e lv=true):5 ≤ zer e lv ∧ zer e lv ≤ 117:=by
 unfold zde at hb
 unfold zer
 split
 ·rename_i hl
  rw [if_pos hl] at hb
  simp [zbq] at hb
  omega
 ·rename_i hl
  rw [if_neg hl] at hb
  have hk:=@zmu e (by intro e0;simp [e0] at hb)
  split
  ·rename_i h1;have:=ztj h1;omega
  ·split
   ·omega
   ·split
    ·omega
    ·exfalso;simp_all
theorem zip {lv:Int}{l:List Entry}{j:Nat}(hj:j<l.length) {s:Int}(hs:wsum lv (l.take j)=some s):wsum lv (l.take (j+1))=if zde l[j] lv then some (s+zer l[j] lv) else none:=by
 rw [List.take_succ_eq_append_getElem hj,zgb,hs]
 by_cases hw:zde l[j] lv<;>simp [wsum,hw]
theorem zui {lv:Int}{l:List Entry}{j:Nat}(hs:wsum lv (l.take j)=none):wsum lv l=none:=by
 have:=zgb lv (l.take j) (l.drop j)
 rw [List.take_append_drop,hs] at this
 exact this
theorem zbp (e:Entry):e.av.cells?=some e.cells:=rfl
theorem zc6 {α:Type}{f:α → AV}(hf:∀ a,(f a).pureB=true):∀ (l:List α),zan (l.map f)=true
 | []=>rfl
 | a::r=>by simp [zan,hf a,zc6 hf r]
theorem zb7 {α:Type}{f:α → AV}(hf:∀ a,(f a).pureB=true) (l:List α) {sz:Nat}{c:Bool}{r:List AV}(hr:zan r=true):zan (.lst sz (l.map f) c::r)=true:=by
 simp [zan,AV.pureB,zc6 hf l,hr]
theorem zcm (e:Entry):e.av.pureB=true:=rfl
end
def Keep (hp hp':zaa) (F:List Nat):Prop:=hp.length ≤ hp'.length ∧ ∀ x,x<hp.length → x ∉ F → hp'[x]?=hp[x]?
theorem Keep.refl (hp:zaa) (F:List Nat):Keep hp hp F:=⟨Nat.le_refl _,fun _ _ _=>rfl⟩
theorem Keep.trans {a b c:zaa}{F G:List Nat}(h1:Keep a b F) (h2:Keep b c G) (hs:∀ x∈G,x∈F ∨ a.length ≤ x):Keep a c F :=
 ⟨Nat.le_trans h1.1 h2.1,fun x hx hn=>by
  rw [h2.2 x (Nat.lt_of_lt_of_le hx h1.1) fun hg=>?_,h1.2 x hx hn]
  rcases hs x hg with h | h
  ·exact hn h
  ·omega⟩
theorem Keep.mono {a b:zaa}{F G:List Nat}(h:Keep a b F) (hs:∀ x∈F,x∈G):Keep a b G:=⟨h.1,fun x hx hn=>h.2 x hx fun hf=>hn (hs x hf)⟩
theorem Keep.app (h:zaa) (x:AB) (F:List Nat):Keep h (h++[x]) F:=⟨by simp,fun y hy _=>List.getElem?_append_left hy⟩
theorem Keep.set {h:zaa}{b:Nat}{x:AB}{F:List Nat}(hb:b∈F):Keep h (h.set b x) F:=⟨by simp,fun y hy hn=>by rw [List.getElem?_set_ne];rintro rfl;exact hn hb⟩
theorem Keep.set' {h h':zaa}{b:Nat}{x:AB}{F:List Nat}(k:Keep h h' F) (hb:b∈F ∨ h.length ≤ b):Keep h (h'.set b x) F:=⟨by simp [k.1],fun y hy hn=>by
 rw [List.getElem?_set_ne,k.2 y hy hn]
 rintro rfl
 rcases hb with hb | hb
 ·exact hn hb
 ·omega⟩
theorem zac {h:zaa}{b:Nat}{x:AB}(hb:h[b]?=some x):b<h.length:=by
 rcases Nat.lt_or_ge b h.length with q | q
 ·exact q
 ·rw [List.getElem?_eq_none q] at hb;cases hb
def Buf (hp:zaa) (b:Nat) (buf:AV) (bs:Str) (F:List Nat):Prop :=
 (buf=.lst 0 [] true ∧ bs=[] ∧ F=[b]) ∨ (∃ bb ver frz,buf=.sl 1 bb ver 0 bs.length ∧ hp[bb]?=some (.cells ver (some 5) (bs.map u8) frz) ∧ b≠bb ∧ frz ≤ bs.length ∧ F=[b,bb])
abbrev tBld:Nat:=246
abbrev tWri:Nat:=248
def BW (hp:zaa) (b:Nat) (bs:Str) (F:List Nat):Prop :=
 ∃ t a buf,hp[b]?=some (.cells 0 (some t) [a,buf] 0) ∧ (a=.nilp ∨ a=.ptr b 0 0) ∧ (t=tBld ∨ t=tWri) ∧ Buf hp b buf bs F
def Wrote (hp hp':zaa) (b:Nat) (F F':List Nat) (bs:Str):Prop:=BW hp' b bs F' ∧ Keep hp hp' F ∧ ∀ x∈F',x∈F ∨ hp.length ≤ x
theorem Wrote.trans {h0 h1 h2:zaa}{b:Nat}{F F1 F2:List Nat}{s1 s2:Str}(w1:Wrote h0 h1 b F F1 s1) (w2:Wrote h1 h2 b F1 F2 s2):Wrote h0 h2 b F F2 s2 :=
 ⟨w2.1,w1.2.1.trans w2.2.1 w1.2.2,fun x hx=>by
  rcases w2.2.2 x hx with h | h
  ·exact w1.2.2 x h
  ·exact .inr (Nat.le_trans w1.2.1.1 h)⟩
theorem Wrote.refl {h:zaa}{b:Nat}{F:List Nat}{s:Str}(w:BW h b s F):Wrote h h b F F s:=⟨w,Keep.refl _ _,fun x hx=>.inl hx⟩
theorem Buf.lt {hp:zaa}{b:Nat}{buf:AV}{bs:Str}{F:List Nat}(h:Buf hp b buf bs F):∀ x∈F,x=b ∨ x<hp.length:=by
 intro x hx
 rcases h with ⟨_,_,rfl⟩ | ⟨bb,ver,frz,_,h2,_,_,rfl⟩
 ·simp at hx;exact .inl hx
 ·simp at hx
  rcases hx with rfl | rfl
  ·exact .inl rfl
  ·exact .inr (zac h2)
theorem BW.lt {hp:zaa}{b:Nat}{bs:Str}{F:List Nat}(h:BW hp b bs F):∀ x∈F,x<hp.length:=by
 obtain ⟨t,a,buf,h1,_,_,h4⟩:=h
 intro x hx
 rcases h4.lt x hx with rfl | h
 ·exact zac h1
 ·exact h
theorem Buf.mem {hp:zaa}{b:Nat}{buf:AV}{bs:Str}{F:List Nat}(h:Buf hp b buf bs F):b∈F:=by
 rcases h with ⟨_,_,rfl⟩ | ⟨bb,ver,frz,_,h2,_,_,rfl⟩<;>simp
theorem BW.mem {hp:zaa}{b:Nat}{bs:Str}{F:List Nat}(h:BW hp b bs F):b∈F:=by
 obtain ⟨t,a,buf,h1,_,_,h4⟩:=h
 exact h4.mem
theorem BW.stays {hp hp':zaa}{b:Nat}{bs:Str}{F G:List Nat}(h:BW hp b bs F) (k:Keep hp hp' G) (hd:∀ x∈F,x ∉ G):BW hp' b bs F:=by
 have hl:=h.lt
 obtain ⟨t,a,buf,h1,h2,h3,h4⟩:=h
 refine ⟨t,a,buf,?_,h2,h3,?_⟩
 ·rw [k.2 b (zac h1) (hd b h4.mem)];exact h1
 ·rcases h4 with h4 | ⟨bb,ver,frz,g1,g2,g3,g4,rfl⟩
  ·exact .inl h4
  ·refine .inr ⟨bb,ver,frz,g1,?_,g3,g4,rfl⟩
   rw [k.2 bb (hl bb (by simp)) (hd bb (by simp))];exact g2
theorem zec (s:Str):((s.map u8).all AV.scal)=true:=by
 rw [List.all_eq_true]
 intro x hx
 obtain ⟨b,_,rfl⟩:=List.mem_map.1 hx
 rfl
theorem zbx:∀ (s:Str),zbe (s.map u8)=some s
 | []=>rfl
 | b::r=>by
  show (zbe (r.map u8)).map (UInt8.ofNat (b.toNat:Int).toNat::·)=_
  rw [zbx r];simp
theorem zt5 (s:Str):((s.map u8).all AV.byteB)=true:=by
 rw [List.all_eq_true]
 intro x hx
 obtain ⟨b,_,rfl⟩:=List.mem_map.1 hx
 have:=b.toNat_lt
 show (decide (0 ≤ (b.toNat:Int))&&decide ((b.toNat:Int)<256))=true
 simp;omega
theorem zjr (h:zaa) (s:Str):zax h 1 s.length (.str s)=some (s.map u8):=by
 simp [zax]
theorem zwv:∀ (s:Str),(((s.map u8).map AV.cells?).flatMap fun o=>o.getD [])=s.map u8
 | []=>rfl
 | b::r=>by
  show [u8 b]++(((r.map u8).map AV.cells?).flatMap fun o=>o.getD [])=_
  rw [zwv r];rfl
theorem zjs (h:zaa) (s:Str) (c:Bool):zax h 1 s.length (.lst 1 (s.map u8) c)=some (s.map u8):=by
 unfold zax
 simp only
 rw [if_pos ⟨by simp,.inl trivial⟩]
 rw [show (s.map u8).take s.length=s.map u8 from List.take_of_length_le (by simp),zwv]
 rw [if_pos]
 rw [List.all_eq_true]
 intro x hx
 obtain ⟨y,hy,rfl⟩:=List.mem_map.1 hx
 obtain ⟨b,_,rfl⟩:=List.mem_map.1 hy
 rfl
def Data (h:zaa) (x:AV) (s:Str):Prop:=lenA x=some s.length ∧ zax h 1 s.length x=some (s.map u8)
theorem zxm {hp:zaa}{b:Nat}{buf x:AV}{bs s:Str}{F:List Nat}(hB:Buf hp b buf bs F) (hx:Data hp x s) (hb:b<hp.length) (hl:bs.length+s.length ≤ 1073741824) :
  ∃ v oh,appR hp 5 1 buf x=some (v,oh) ∧ ∃ hp' F',hp'=oh.getD hp ∧ hp'[b]?=hp[b]? ∧ Buf hp' b v (bs++s) F' ∧ Keep hp hp' F ∧ (∀ x∈F',x∈F ∨ hp.length ≤ x) ∧ (∃ xs,v.cells?=some xs ∧ xs=[v]):=by
 obtain ⟨h1,h2⟩:=hx
 unfold appR
 rw [h1]
 simp only
 rw [h2]
 simp only [zec,Bool.not_true,Bool.false_eq_true,if_false]
 rcases hB with ⟨rfl,rfl,rfl⟩ | ⟨bb,ver,frz,rfl,g1,g2,g3,rfl⟩
 ·by_cases e:s.length=0
  ·have:s=[]:=List.length_eq_zero_iff.1 e
   subst this
   simp only [List.length_nil,if_true]
   exact ⟨_,_,rfl,hp,[b],rfl,rfl,.inl ⟨rfl,rfl,rfl⟩,Keep.refl _ _,fun x hx=>.inl hx,_,rfl,rfl⟩
  ·simp only
   rw [if_neg e]
   have h3:zax hp 1 ([]:List AV).length (.lst 0 [] true)=some []:=rfl
   rw [h3]
   simp only [List.length_nil,Nat.zero_add]
   rw [if_pos ⟨by simpa using hl,rfl⟩]
   refine ⟨_,_,rfl,_,[b,hp.length],rfl,?_,.inr ⟨hp.length,0,0,rfl,?_,by omega,Nat.zero_le _,rfl⟩,Keep.app _ _ _,?_,_,rfl,rfl⟩
   ·simp only [Option.getD_some];rw [List.getElem?_append_left hb]
   ·simp
   ·intro x hx;simp at hx;rcases hx with rfl | rfl<;>simp
 ·simp only
  rw [g1]
  simp only
  rw [if_pos ⟨.inl trivial,trivial,trivial,trivial,by simp,zec _,hl,by simpa using g3⟩]
  by_cases e:s.length=0
  ·have:s=[]:=List.length_eq_zero_iff.1 e
   subst this
   rw [if_pos (show ([]:Str).length=0 from rfl)]
   exact ⟨_,_,rfl,hp,[b,bb],rfl,rfl,.inr ⟨bb,ver,frz,by simp,by simpa using g1,g2,by simpa using g3,rfl⟩,Keep.refl _ _,fun x hx=>.inl hx,_,rfl,rfl⟩
  ·rw [if_neg e]
   refine ⟨_,_,rfl,_,[b,bb],rfl,?_,.inr ⟨bb,ver+1,frz,by simp,?_,g2,by simp;omega,rfl⟩,Keep.set (by simp),fun x hx=>.inl hx,_,rfl,rfl⟩
   ·simp only [Option.getD_some];rw [List.getElem?_set_ne (fun e=>g2 e.symm)]
   ·simp only [Option.getD_some,List.map_append];rw [List.getElem?_set_self (zac g1)]
theorem eq_bld (b:Nat):eqA Tryz.prog 20 244 (.ptr b 0 0) (.ptr b 0 0)=some true:=by
 have h1:Tryz.prog.underlying 244=some (.pointer tBld):=by kernel_rfl
 have h2:(ti Tryz.prog tBld).isSome=true:=by kernel_rfl
 unfold eqA
 rw [h1]
 simp only
 rw [if_pos ⟨trivial,trivial,trivial,h2⟩]
theorem zzt:liesAt Tryz.prog Tryz.prog.depth tBld (2 / Tryz.prog.cellsOf tBld) 0 tBld 1=true:=by kernel_rfl
theorem zzs:liesAt Tryz.prog Tryz.prog.depth tWri (2 / Tryz.prog.cellsOf tWri) 0 tBld 1=true:=by kernel_rfl
section
variable {n:Nat}
theorem zfl (hn:1 ≤ n) {hp:zaa}{b:Nat}{bs:Str}{F:List Nat}(w:BW hp b bs F) :
  ∃ hp' t buf,C n 214 [.ptr b 0 0] hp=some (.ret (.tup []),hp') ∧ hp'[b]?=some (.cells 0 (some t) [.ptr b 0 0,buf] 0) ∧ (t=tBld ∨ t=tWri) ∧ Buf hp' b buf bs F ∧ Keep hp hp' F:=by
 obtain ⟨m,rfl⟩:=pre1 n
 obtain ⟨t,a,buf,h1,h2,h3,h4⟩:=w
 rcases h2 with rfl | rfl
 ·refine ⟨hp.set b (.cells 0 (some t) (putAt [.nilp,buf] 0 [.ptr b 0 0]) 0),t,buf,?_,?_,h3,?_,Keep.set h4.mem⟩
  ·refine za2 F214 rfl rfl ?_
   conv=>whnf
   refine ldI h1 ?_
   conv=>whnf
   refine ⟨_,_,_,h1,by show 0<2;decide,?_⟩
   conv=>whnf
   refine ⟨_,_,_,h1,?_,?_⟩
   ·rcases h3 with rfl | rfl
    ·exact zzt
    ·exact zzs
   conv=>whnf
   refine stJ h1 ?_
   exact ⟨rfl,[],rfl,rfl,rfl⟩
  ·rw [List.getElem?_set_self (zac h1)];rfl
  ·rcases h4 with h4 | ⟨bb,ver,frz,g1,g2,g3,g4,rfl⟩
   ·exact .inl h4
   ·exact .inr ⟨bb,ver,frz,g1,by rw [List.getElem?_set_ne g3];exact g2,g3,g4,rfl⟩
 ·refine ⟨hp,t,buf,?_,h1,h3,h4,Keep.refl _ _⟩
  refine za2 F214 rfl rfl ?_
  conv=>whnf
  refine ldI h1 ?_
  conv=>whnf
  refine ldI h1 ?_
  conv=>whnf
  refine eqI (eq_bld b) ?_
  exact ⟨rfl,[],rfl,rfl,rfl⟩
theorem zq6 {hp hp1 hp2:zaa}{b t:Nat}{F F':List Nat}{bs:Str}{v:AV}(h3:t=tBld ∨ t=tWri) (k1:Keep hp hp1 F) (e2:hp2[b]?=some (.cells 0 (some t) [.ptr b 0 0,v] 0)) (hb:b∈F) (hB:Buf hp2 b v bs F') (k2:Keep hp1 hp2 F) (hF:∀ x∈F',x∈F ∨ hp1.length ≤ x):Wrote hp hp2 b F F' bs :=
 ⟨⟨t,_,_,e2,.inr rfl,h3,hB⟩,k1.trans k2 (fun x hx=>.inl hx),fun x hx=>(hF x hx).imp id fun h=>Nat.le_trans k1.1 h⟩
theorem zxl {hp:zaa}{b:Nat}{x:AB}{buf:AV}{bs:Str}{F:List Nat}(h:Buf hp b buf bs F):Buf (hp.set b x) b buf bs F:=by
 rcases h with h | ⟨bb,ver,frz,g1,g2,g3,g4,rfl⟩
 ·exact .inl h
 ·exact .inr ⟨bb,ver,frz,g1,by rw [List.getElem?_set_ne g3];exact g2,g3,g4,rfl⟩
theorem zbi (hn:2 ≤ n) {hp:zaa}{b:Nat}{bs:Str}{F:List Nat}(w:BW hp b bs F) (s:Str) (hl:bs.length+s.length ≤ 1073741824) :
  ∃ hp' F',C n 176 [.ptr b 0 0,.str s] hp=some (.ret (.tup [i64 s.length,.nili]),hp') ∧ Wrote hp hp' b F F' (bs++s):=by
 obtain ⟨m,rfl⟩:=pre1 n
 have hm:=w.mem
 obtain ⟨hp1,t,buf,e1,h1,h3,h4,k1⟩:=zfl (n:=m) (by omega) w
 obtain ⟨v,oh,e2,hp2,F',rfl,g1,g2,g3,g4,xs,g5,rfl⟩:=zxm h4 (x:=.str s) ⟨rfl,zjr _ _⟩ (zac h1) hl
 have g1':=g1.trans h1
 refine ⟨(oh.getD hp1).set b (.cells 0 (some t) (putAt [.ptr b 0 0,buf] 1 [v]) 0),F',?_,?_⟩
 ·refine za2 F176 rfl rfl ?_
  conv=>whnf
  refine clI e1 ?_
  conv=>whnf
  refine ldI h1 ?_
  refine ⟨_,e2,?_⟩
  cases oh with
  | none =>
   conv=>whnf
   refine stI h1 g5 (by rfl) (by rfl) (by rfl) ?_
   exact ⟨rfl,[i64 s.length,.nili],rfl,rfl,rfl⟩
  | some h2 =>
   conv=>whnf
   refine stI g1' g5 (by rfl) (by rfl) (by rfl) ?_
   exact ⟨rfl,[i64 s.length,.nili],rfl,rfl,rfl⟩
 ·exact zq6 h3 k1 (by rw [List.getElem?_set_self (zac g1')];rfl) hm (zxl g2) (g3.set' (.inl hm)) g4
theorem zib (hn:2 ≤ n) {hp:zaa}{b:Nat}{bs:Str}{F:List Nat}(w:BW hp b bs F) (c:UInt8) (hl:bs.length+1 ≤ 1073741824) :
  ∃ hp' F',C n 173 [.ptr b 0 0,u8 c] hp=some (.ret .nili,hp') ∧ Wrote hp hp' b F F' (bs++[c]):=by
 obtain ⟨m,rfl⟩:=pre1 n
 have hm:=w.mem
 obtain ⟨hp1,t,buf,e1,h1,h3,h4,k1⟩:=zfl (n:=m) (by omega) w
 obtain ⟨v,oh,e2,hp2,F',rfl,g1,g2,g3,g4,xs,g5,rfl⟩:=zxm h4 (x:=.lst 1 ([c].map u8) true) ⟨rfl,zjs _ _ _⟩ (zac h1) hl
 have g1':=g1.trans h1
 refine ⟨(oh.getD hp1).set b (.cells 0 (some t) (putAt [.ptr b 0 0,buf] 1 [v]) 0),F',?_,?_⟩
 ·refine za2 F173 rfl rfl ?_
  conv=>whnf
  refine clI e1 ?_
  conv=>whnf
  refine ldI h1 ?_
  conv=>whnf
  refine ⟨rfl,?_⟩
  refine ⟨_,e2,?_⟩
  cases oh with
  | none =>
   conv=>whnf
   refine stI h1 g5 (by rfl) (by rfl) (by rfl) ?_
   exact ⟨rfl,[.nili],rfl,rfl,rfl⟩
  | some h2 =>
   conv=>whnf
   refine stI g1' g5 (by rfl) (by rfl) (by rfl) ?_
   exact ⟨rfl,[.nili],rfl,rfl,rfl⟩
 ·exact zq6 h3 k1 (by rw [List.getElem?_set_self (zac g1')];rfl) hm (zxl g2) (g3.set' (.inl hm)) g4
theorem zly (hn:1 ≤ n) {hp:zaa}{b:Nat}{bs:Str}{F:List Nat}(w:BW hp b bs F):C n 178 [.ptr b 0 0] hp=some (.ret (i64 bs.length),hp):=by
 obtain ⟨m,rfl⟩:=pre1 n
 obtain ⟨t,a,buf,h1,h2,h3,h4⟩:=w
 refine za2 F178 rfl rfl ?_
 conv=>whnf
 refine ldI h1 ?_
 rcases h4 with ⟨rfl,rfl,rfl⟩ | ⟨bb,ver,frz,rfl,g2,g3,g4,rfl⟩
 ·exact ⟨rfl,[i64 0],rfl,rfl,rfl⟩
 ·exact ⟨rfl,[i64 bs.length],rfl,rfl,rfl⟩
theorem zfq (hn:1 ≤ n) {hp:zaa}{b:Nat}{bs:Str}{F:List Nat}(w:BW hp b bs F) (h0:bs≠[]) (hl:bs.length ≤ 1073741824):∃ hp',C n 180 [.ptr b 0 0] hp=some (.ret (.str bs),hp') ∧ Wrote hp hp' b F F bs:=by
 obtain ⟨m,rfl⟩:=pre1 n
 obtain ⟨t,a,buf,h1,h2,h3,h4⟩:=w
 rcases h4 with ⟨rfl,rfl,rfl⟩ | ⟨bb,ver,frz,rfl,g2,g3,g4,rfl⟩
 ·exact (h0 rfl).elim
 ·have hpos:0<bs.length:=by cases bs with | nil=>exact (h0 rfl).elim | cons=>simp
  have e1:(hp.set bb (.cells ver (some 5) (bs.map u8) (max frz bs.length)))[b]?=some (.cells 0 (some t) [a,.sl 1 bb ver 0 bs.length] 0):=by rw [List.getElem?_set_ne (fun e=>g3 e.symm)];exact h1
  refine ⟨hp.set bb (.cells ver (some 5) (bs.map u8) (max frz bs.length)),?_,⟨t,a,_,e1,h2,h3,.inr ⟨bb,ver,_,rfl,by rw [List.getElem?_set_self (zac g2)],g3,by omega,rfl⟩⟩,Keep.set (by simp),fun x hx=>.inl hx⟩
  refine za2 F180 rfl rfl ?_
  conv=>whnf
  refine ldI h1 ?_
  conv=>whnf
  refine ⟨by omega,?_⟩
  conv=>whnf
  refine ldI h1 ?_
  conv=>whnf
  have e:(bs.map u8).take (bs.length:Int).toNat=bs.map u8:=by rw [Int.toNat_natCast];exact List.take_of_length_le (by simp)
  refine ⟨by omega,_,_,bs,g2,⟨by simp,by simpa using hl⟩,by rw [e];exact zt5 bs,by rw [e];exact zbx bs,?_⟩
  conv=>whnf
  refine ⟨?_,?_⟩
  ·refine ⟨?_,?_⟩
   ·conv=>whnf
    exact ldI e1 rfl
   ·conv=>whnf
    exact ldI e1 rfl
  ·exact ⟨rfl,[.str bs],rfl,rfl,by simp⟩
end
def num (k:Nat):Nat → Str
 | 0=>[]
 | w+1=>UInt8.ofNat (k / 256 ^ w)::num k w
theorem zal (k:Nat):∀ w,(num k w).length=w
 | 0=>rfl
 | w+1=>by simp [num,zal k w]
theorem zxk {k i:Nat}(hi:i ≤ 7):IntKind.u8.wrap (((k:Int)).fdiv (2 ^ (min ((8*(i:Int))).toNat IntKind.i64.bits)))=((UInt8.ofNat (k / 256 ^ i)).toNat:Int):=by
 have h1:min (8*(i:Int)).toNat IntKind.i64.bits=8*i:=by show min (8*(i:Int)).toNat 64=8*i;omega
 rw [h1,Int.fdiv_eq_ediv_of_nonneg _ (by exact Int.pow_nonneg (by decide))]
 have h2:((k:Int)) / (2 ^ (8*i):Int)=((k / 256 ^ i:Nat):Int):=by
  rw [show (256:Nat)=2 ^ 8 by rfl,← Nat.pow_mul]
  norm_cast
 rw [h2]
 show (if (IntKind.u8.signed&&decide (((k / 256 ^ i:Nat):Int) % (2 ^ 8:Int)≥(2 ^ (8-1):Int)))=true then ((k / 256 ^ i:Nat):Int) % (2 ^ 8:Int)-2 ^ 8 else ((k / 256 ^ i:Nat):Int) % (2 ^ 8:Int))=_
 rw [if_neg (by simp [IntKind.signed]),UInt8.toNat_ofNat']
 omega
def Dg.bytes (d:Dg):Str:=d.list
theorem Dg.bytes_len (d:Dg):d.bytes.length=16:=rfl
theorem Dg.cells_map (d:Dg):d.cells=d.bytes.map u8:=rfl
section
variable {n:Nat}
theorem zvx (hn:3 ≤ n) {hp:zaa}{b:Nat}{bs:Str}{F:List Nat}(w:BW hp b bs F) (k wd:Nat) (hw:wd ≤ 8) (hl:bs.length+wd ≤ 1073741824) :
  ∃ hp' F',C n 174 [.ptr b 0 0,i64 k,i64 wd] hp=some (.ret (.tup []),hp') ∧ Wrote hp hp' b F F' (bs++num k wd):=by
 obtain ⟨m,rfl⟩:=pre1 n
 have:=zcp (n:=m) (c:=cfg0) (args:=[.ptr b 0 0,i64 k,i64 wd]) (h:=hp) (R:=fun v hp'=>v=.tup [] ∧ ∃ F',Wrote hp hp' b F F' (bs++num k wd)) F174 rfl rfl ?_
 ·obtain ⟨v,hp',e,rfl,F',hW⟩:=this
  exact ⟨hp',F',e,hW⟩
 conv=>whnf
 refine zI (zad (by omega) (by omega)) ?_
 conv=>whnf
 refine za7 (by decide) rfl (α:=Nat × Str × List Nat × zaa) (fun x=>⟨[(0,.ptr b 0 0),(1,i64 k),(6,i64 ((x.1:Int)-1))],x.2.2.2,[]⟩)
  (fun x=>x.1 ≤ wd ∧ Wrote hp x.2.2.2 b F x.2.2.1 (bs++x.2.1) ∧ x.2.1++num k x.1=num k wd) (fun x=>x.1) (wd,[],F,hp) ⟨⟨rfl,rfl,rfl⟩,rfl,rfl⟩ ?_ (by simp only [KK];omega) ?_
 ·exact ⟨Nat.le_refl _,by simpa using Wrote.refl w,rfl⟩
 ·rintro ⟨r,o,G,h1⟩ ⟨g1,g2,g3⟩
  simp only at g1 g2 g3
  conv=>whnf
  refine brd (fun a=>?_) (fun a=>?_)
  ·simp only at a
   obtain ⟨q,rfl⟩ : ∃ q,r=q+1:=⟨r-1,by omega⟩
   have hlen:o.length+(q+1)=wd:=by
    have:=congrArg List.length g3
    simpa [zal] using this
   conv=>whnf
   refine zI (z:=8*(q:Int)) (by rw [zad (by omega) (by omega)];omega) ?_
   conv=>whnf
   refine ⟨by omega,_,rfl,?_⟩
   conv=>whnf
   refine zI (zxk (k:=k) (i:=q) (by omega)) ?_
   obtain ⟨h2,G2,e2,w2⟩:=zib (n:=m) (by omega) g2.1 (UInt8.ofNat (k / 256 ^ q)) (by simp;omega)
   conv=>whnf
   refine clI e2 ?_
   conv=>whnf
   refine zI (z:=(q:Int)-1) (by rw [zad (by omega) (by omega)];omega) ?_
   refine nxI (q,o++[UInt8.ofNat (k / 256 ^ q)],G2,h2) ⟨by omega,?_,?_⟩ (by simp) ⟨⟨rfl,rfl,rfl⟩,rfl,rfl⟩
   ·have:=g2.trans w2
    simpa using this
   ·rw [← g3];simp [num]
  ·simp only at a
   have:r=0:=by omega
   subst this
   conv=>whnf
   refine ⟨rfl,[],rfl,rfl,G,?_⟩
   have g4:Wrote hp h1 b F G (bs++num k wd):=by rw [← g3];simpa [num] using g2
   exact g4
theorem zmv (h:zaa) {bb ver:Nat}{el:Option TypeId}{s:Str}{frz:Nat}(hb:h[bb]?=some (.cells ver el (s.map u8) frz)):zax h 1 s.length (.sl 1 bb ver 0 s.length)=some (s.map u8):=by
 unfold zax
 simp only
 rw [if_pos ⟨Nat.le_refl _,trivial⟩,hb]
 simp only
 rw [if_pos ⟨trivial,by simp⟩]
 rw [List.drop_zero,Nat.mul_one,List.take_of_length_le (by simp)]
theorem z1m (hn:3 ≤ n) {hp:zaa}{b:Nat}{bs:Str}{F:List Nat}(w:BW hp b bs F) (d:Dg) (hl:bs.length+16 ≤ 1073741824) :
  ∃ hp' F',C n 282 [.ptr b 0 0,.agg d.cells] hp=some (.ret (.tup []),hp') ∧ Wrote hp hp' b F F' (bs++d.bytes):=by
 obtain ⟨m,rfl⟩:=pre1 n
 have hb:=w.lt b w.mem
 have k0:Keep hp (hp++[.cells 0 (some 23) d.cells 0]) []:=Keep.app _ _ _
 have w1:=w.stays k0 (by simp)
 obtain ⟨h2,G2,e2,w2⟩:=zbi (n:=m) (by omega) w1 d.bytes (by rw [d.bytes_len];exact hl)
 refine ⟨h2,G2,?_,w2.1,(k0.mono (by simp)).trans w2.2.1 (fun x hx=>.inl hx),fun x hx=>(w2.2.2 x hx).imp id fun h=>by simp at h;omega⟩
 have hd:(hp++[.cells 0 (some 23) d.cells 0])[hp.length]?=some (.cells 0 (some 23) (d.bytes.map u8) 0):=zag _ _
 have hs:h2[hp.length]?=some (.cells 0 (some 23) (d.bytes.map u8) 0):=by
  rw [w2.2.1.2 hp.length (by simp) (fun h=>by have:=w.lt _ h;omega)]
  exact hd
 refine za2 F282 rfl rfl ?_
 conv=>whnf
 refine ⟨_,_,_,hd,⟨by rw [List.length_map,d.bytes_len];decide,by decide⟩,?_⟩
 refine slI (v:=.sl 1 hp.length 0 0 16) rfl ?_
 conv=>whnf
 refine ⟨_,d.bytes,zmv _ hd,zbx _,?_⟩
 conv=>whnf
 refine clI e2 ?_
 ·exact ⟨rfl,[],rfl,rfl,rfl⟩
end
def c280:RC :=
 (.seq (.ops [(oP 4 (.box 296 (.t 0))),(oP 6 (.box 147 (.t 2)))])
 (.seq (.ops [(mV 8 1),(oC 9 0 6),(oA 10 9),(oP 11 (.lenS (.t 10))),(mV 12 3),(oI 13 .sub 11 12),(oP 14 (.callF 174 [(.t 8),(.t 13),(.c (.int .i64 1))]))])
 (.seq (.draw [((mV 15 1),0),((oR 16 15),0),((oC 17 0 16),0),((oC 18 0 6),0),((oA 19 18),1),((mV 20 3),0),((oP 21 (.sliceS (.t 19) (some (.t 20)) none)),1),((oW 22 176 17 21),2)])
 (.block 0
 (.seq (.ops [(oC 35 1 4),(oA 36 35),(oJ 37 .gtr 36 0),(mV 34 37)])
 (.cond (.t 34)
 (.seq (.ops [(mV 38 1),(oC 39 4 6),(oA 40 39),(oP 41 (.callF 174 [(.t 38),(.t 40),(.c (.int .i64 4))]))])
 (.seq (.ops [(mV 42 1),(oC 43 5 6),(oA 44 43),(oP 45 (.callF 174 [(.t 42),(.t 44),(.c (.int .i64 4))]))])
 (.ops [(mV 46 1),(oC 47 6 6),(oB 48 16 47),(oW 49 282 46 48)])))
 (.seq (.ops [(oC 51 2 6),(oA 52 51),(oJ 53 .gtr 52 0),(mV 50 53)])
 (.cond (.t 50)
 (.seq (.ops [(mV 54 1),(oP 55 (.callF 174 [(.t 54),(.c (.int .i64 65535)),(.c (.int .i64 2))]))])
 (.seq (.ops [(mV 56 1),(oC 57 2 6),(oA 58 57),(oP 59 (.callF 174 [(.t 56),(.t 58),(.c (.int .i64 4))]))])
 (.seq (.ops [(mV 60 1),(oC 61 3 6),(oA 62 61),(oP 63 (.callF 174 [(.t 60),(.t 62),(.c (.int .i64 2))]))])
 (.ops [(mV 64 1),(oC 65 6 6),(oB 66 16 65),(oW 67 282 64 66)]))))
 (.seq (.ops [(oC 69 4 6),(oA 70 69),(oJ 71 .gtr 70 0),(mV 68 71)])
 (.cond (.t 68)
 (.seq (.ops [(mV 72 1),(oP 73 (.callF 174 [(.t 72),(.c (.int .i64 65534)),(.c (.int .i64 2))]))])
 (.seq (.ops [(mV 74 1),(oC 75 4 6),(oA 76 75),(oP 77 (.callF 174 [(.t 74),(.t 76),(.c (.int .i64 4))]))])
 (.seq (.ops [(mV 78 1),(oC 79 5 6),(oA 80 79),(oP 81 (.callF 174 [(.t 78),(.t 80),(.c (.int .i64 4))]))])
 (.ops [(mV 82 1),(oC 83 6 6),(oB 84 16 83),(oW 85 282 82 84)]))))
 (.seq (.ops [(mV 23 1),(oC 24 1 6),(oA 25 24),(oP 26 (.lenS (.t 25))),(oP 27 (.callF 174 [(.t 23),(.t 26),(.c (.int .i64 2))]))])
 (.draw [((mV 28 1),0),((oR 29 28),0),((oC 30 0 29),0),((oC 31 1 6),0),((oA 32 31),1),((oW 33 176 30 32),2)]))))))))))))
theorem F280:FI 280 4 86 7 [] c280:=mkF Tryz.f280 Tryz.func280
def c278:RC :=
 (.seq (.ops [(oP 2 (.box 296 (.t 0)))])
 (.seq (.ops [(oC 11 3 2),(oA 12 11),(oC 13 1 2),(oA 14 13),(oW 15 279 12 14),(mV 4 15)])
 (.seq (.ops [(mV 16 1),(oC 17 0 2),(oA 18 17),(oP 19 (.callF 174 [(.t 16),(.t 18),(.c (.int .i64 1))]))])
 (.seq (.ops [(mV 20 1),(oC 21 1 2),(oA 22 21),(oP 23 (.callF 174 [(.t 20),(.t 22),(.c (.int .i64 1))]))])
 (.seq (.ops [(oH 5 0)])
 (.seq (.seq (.ops [(oC 24 2 2),(oA 25 24)])
 (.cond (.t 25)
 (.ops [(oH 5 1)])
 .skip))
 (.cut (.seq (.ops [(mV 26 1),(mV 27 5),(oP 28 (.callF 174 [(.t 26),(.t 27),(.c (.int .i64 1))]))])
 (.seq (.ops [(mV 29 1),(mV 30 4),(oP 31 (.lenS (.t 30))),(oP 32 (.callF 174 [(.t 29),(.t 31),(.c (.int .i64 1))]))])
 (.seq (.ops [(mV 33 1),(oC 34 3 2),(oA 35 34),(oK 36 35),(oP 37 (.callF 174 [(.t 33),(.t 36),(.c (.int .i64 2))]))])
 (.seq (.ops [(mV 38 1),(oR 39 38),(oC 40 0 39),(mV 41 4),(oW 42 176 40 41)])
 (.seq (.ops [(oP 6 (.alloc 248 [.nilp,(.lst 0 [] true)]))])
 (.seq (.draw [((mV 43 1),0),((oR 44 43),0),((oC 45 0 44),0),((oC 47 3 2),0),((oA 48 47),1),((oK 49 48),0),((oP 50 (.bin .mul (.c (.int .i64 2)) (.t 49))),0),((oV 46 178 45),2),((oI 51 .add 46 50),0),((mV 7 51),0)])
 (.seq (.seq (.ops [(oC 52 3 2),(oA 53 52),(oK 54 53),(oH 55 0)])
 (.block 0
 (.loop
 (.seq (.ops [(oI 56 .lss 55 54)])
 (.seq (.cond (.t 56)
 .skip
 (.exit 0))
 (.seq (.block 1
 (.seq (.ops [(mV 57 55),(oS 58 22 53 55),(oB 59 22 58),(oP 9 (.alloc 147 [(.str []),(.str []),(.int .i64 0),(.int .i64 0),(.int .i64 0),(.int .i64 0),(.int .u8 0),(.int .u8 0),(.int .u8 0),(.int .u8 0),(.int .u8 0),(.int .u8 0),(.int .u8 0),(.int .u8 0),(.int .u8 0),(.int .u8 0),(.int .u8 0),(.int .u8 0),(.int .u8 0),(.int .u8 0),(.int .u8 0),(.int .u8 0)])),(mV 8 57),(oT 22 9 59)])
 (.seq (.ops [(mV 60 1),(mV 61 7),(oC 62 0 6),(oV 63 178 62),(oI 64 .add 61 63),(oP 65 (.callF 174 [(.t 60),(.t 64),(.c (.int .i64 2))]))])
 (.seq (.ops [(mV 66 4),(oP 67 (.lenS (.t 66))),(mV 10 67)])
 (.seq (.seq (.ops [(mV 68 8),(oJ 69 .eql 68 0),(mV 70 69),(oF 71 70 true 1 2),(oD 72 70 true 71),(oG 73 70 true (.bin .gtr (.t 72) (.c (.int .i64 0)))),(oN 74 70 73)])
 (.cond (.t 74)
 (.ops [(oH 10 0)])
 .skip))
 (.cut (.ops [(oB 75 4 2),(oB 76 22 9),(mV 77 10),(oP 78 (.callF 280 [(.t 75),(.t 6),(.t 76),(.t 77)]))])))))))
 (.cut (.ops [(oJ 79 .add 55 1),(mV 55 79)]))))))))
 (.cut (.draw [((mV 80 1),0),((oR 81 80),0),((oC 82 0 81),0),((oC 83 0 6),0),((oV 84 180 83),2),((oW 85 176 82 84),2)]))))))))))))))))
theorem F278:FI 278 2 86 7 [] c278:=mkF Tryz.f278 Tryz.func278
def c276:RC :=
 (.seq (.ops [(oP 2 (.box 292 (.t 0)))])
 (.seq (.ops [(mV 4 1),(oC 5 0 2),(oA 6 5),(oP 7 (.callF 174 [(.t 4),(.t 6),(.c (.int .i64 4))]))])
 (.seq (.ops [(mV 8 1),(oC 9 1 2),(oA 10 9),(oP 11 (.lenS (.t 10))),(oP 12 (.callF 174 [(.t 8),(.t 11),(.c (.int .i64 2))]))])
 (.draw [((mV 13 1),0),((oR 14 13),0),((oC 15 0 14),0),((oC 16 1 2),0),((oA 17 16),1),((oW 18 176 15 17),2)]))))
theorem F276:FI 276 2 19 5 [] c276:=mkF Tryz.f276 Tryz.func276
def c277:RC :=
 (.seq (.ops [(oP 2 (.box 294 (.t 0)))])
 (.seq (.ops [(mV 8 1),(oC 9 0 2),(oA 10 9),(oP 11 (.callF 174 [(.t 8),(.t 10),(.c (.int .i64 4))]))])
 (.seq (.ops [(mV 12 1),(oC 13 1 2),(oA 14 13),(oK 15 14),(oP 16 (.callF 174 [(.t 12),(.t 15),(.c (.int .i64 2))]))])
 (.seq (.ops [(oC 17 1 2),(oA 18 17),(oK 19 18),(oH 20 0)])
 (.block 0
 (.loop
 (.seq (.ops [(oI 21 .lss 20 19)])
 (.seq (.cond (.t 21)
 .skip
 (.exit 0))
 (.seq (.block 1
 (.seq (.ops [(oS 22 2 18 20),(oB 23 2 22),(oP 5 (.alloc 145 [(.int .i64 0),(.lst 0 [] true)])),(oT 2 5 23)])
 (.seq (.ops [(mV 24 1),(oC 25 0 5),(oA 26 25),(oP 27 (.callF 174 [(.t 24),(.t 26),(.c (.int .i64 6))]))])
 (.seq (.ops [(mV 28 1),(oC 29 1 5),(oA 30 29),(oK 31 30),(oP 32 (.callF 174 [(.t 28),(.t 31),(.c (.int .i64 2))]))])
 (.seq (.ops [(oC 33 1 5),(oA 34 33),(oK 35 34),(oH 36 0)])
 (.block 2
 (.loop
 (.seq (.ops [(oI 37 .lss 36 35)])
 (.seq (.cond (.t 37)
 .skip
 (.exit 2))
 (.seq (.block 3
 (.seq (.ops [(oS 38 1 34 36),(oA 39 38),(mV 7 39)])
 (.ops [(mV 40 1),(mV 41 7),(oP 42 (.callF 174 [(.t 40),(.t 41),(.c (.int .i64 4))]))])))
 (.ops [(oJ 43 .add 36 1),(mV 36 43)])))))))))))
 (.cut (.ops [(oJ 44 .add 20 1),(mV 20 44)])))))))))))
theorem F277:FI 277 2 45 6 [] c277:=mkF Tryz.f277 Tryz.func277
theorem Wrote.keep {h h':zaa}{b x:Nat}{F F':List Nat}{s:Str}{v:AB}(w:Wrote h h' b F F' s) (hx:h[x]?=some v) (hn:x ∉ F):h'[x]?=some v ∧ x ∉ F':=by
 have hl:=zac hx
 refine ⟨by rw [w.2.1.2 x hl hn];exact hx,fun hf=>?_⟩
 rcases w.2.2 x hf with h | h
 ·exact hn h
 ·omega
theorem BW.app {h:zaa}{b:Nat}{F:List Nat}{s:Str}(w:BW h b s F) (x:AB):BW (h++[x]) b s F ∧ (h++[x])[h.length]?=some x ∧ h.length ∉ F :=
 ⟨w.stays (Keep.app h x []) (by simp),zag _ _,fun hf=>by have:=w.lt _ hf;omega⟩
theorem za8 {h:zaa}{i:Nat}{v x:AB}(hi:h[i]?=some v):(h++[x])[i]?=some v:=by rw [List.getElem?_append_left (zac hi)];exact hi
theorem Wrote.of_app {h h':zaa}{b:Nat}{F F':List Nat}{s:Str}{x:AB}(w:Wrote (h++[x]) h' b F F' s):Wrote h h' b F F' s :=
 ⟨w.1,((Keep.app h x []).mono (by simp)).trans w.2.1 (fun x hx=>.inl hx),fun y hy=>(w.2.2 y hy).imp id fun h=>by simp at h;omega⟩
section
variable {n:Nat}{hp:zaa}{b:Nat}{bs:Str}{F:List Nat}{K X:AV → zaa → Prop}
theorem numC (hn:3 ≤ n) (w:BW hp b bs F) (k:Int) (h0:0 ≤ k) (wd:Nat) (hw:wd ≤ 8) (hl:bs.length+wd ≤ 1073741824) (hk:∀ hp' F',Wrote hp hp' b F F' (bs++num k.toNat wd) → K (.tup []) hp') :
  ∃ r h',C n 174 [.ptr b 0 0,i64 k,i64 wd] hp=some (r,h') ∧ WpR K X h' r:=by
 obtain ⟨q,rfl⟩:=Int.eq_ofNat_of_zero_le h0
 obtain ⟨hp',F',e,h⟩:=zvx hn w q wd hw hl
 exact clI e (hk hp' F' h)
theorem sumC (hn:3 ≤ n) (w:BW hp b bs F) (d:Dg) (hl:bs.length+16 ≤ 1073741824) (hk:∀ hp' F',Wrote hp hp' b F F' (bs++d.bytes) → K (.tup []) hp') :
  ∃ r h',C n 282 [.ptr b 0 0,.agg d.cells] hp=some (r,h') ∧ WpR K X h' r:=by
 obtain ⟨hp',F',e,h⟩:=z1m hn w d hl
 exact clI e (hk hp' F' h)
theorem strC (hn:2 ≤ n) (w:BW hp b bs F) (s:Str) (hl:bs.length+s.length ≤ 1073741824) (hk:∀ hp' F',Wrote hp hp' b F F' (bs++s) → K (.tup [i64 s.length,.nili]) hp') :
  ∃ r h',C n 176 [.ptr b 0 0,.str s] hp=some (r,h') ∧ WpR K X h' r:=by
 obtain ⟨hp',F',e,h⟩:=zbi hn w s hl
 exact clI e (hk hp' F' h)
theorem byteC (hn:2 ≤ n) (w:BW hp b bs F) (c:UInt8) (hl:bs.length+1 ≤ 1073741824) (hk:∀ hp' F',Wrote hp hp' b F F' (bs++[c]) → K .nili hp') :
  ∃ r h',C n 173 [.ptr b 0 0,u8 c] hp=some (r,h') ∧ WpR K X h' r:=by
 obtain ⟨hp',F',e,h⟩:=zib hn w c hl
 exact clI e (hk hp' F' h)
def zhk (e:Entry) (lv:Int):Str :=
 if 0<lv then num e.child.toNat 4++(num e.count.toNat 4++e.sum.bytes)
 else if 0<e.over then num 65535 2++(num e.over.toNat 4++(num e.len.toNat 2++e.sum.bytes))
 else if 0<e.child then num 65534 2++(num e.child.toNat 4++(num e.count.toNat 4++e.sum.bytes))
 else num e.val.length 2++e.val
def entB (c:Nat) (e:Entry) (lv:Int):Str:=num (e.key.length-c) 1++(e.key.drop c++zhk e lv)
def Entry.Nn (e:Entry):Prop:=0 ≤ e.over ∧ 0 ≤ e.len ∧ 0 ≤ e.child ∧ 0 ≤ e.count
theorem znu (e:Entry) (lv:Int):(zhk e lv).length ≤ 26+e.val.length:=by
 unfold zhk
 repeat' split
 all_goals simp [zal,Dg.bytes_len]
 all_goals omega
theorem z0i (hn:4 ≤ n) (w:BW hp b bs F) (xs:List AV) (lv:Int) (hx:xs[1]?=some (i64 lv)) (hs:AV.cells? (.agg xs)=some xs) (e:Entry) (hN:e.Nn) (c:Nat) (hc:c ≤ e.key.length) (hl:bs.length+e.key.length+e.val.length+32 ≤ 1073741824) :
  ∃ hp' F',C n 280 [.agg xs,.ptr b 0 0,e.av,i64 c] hp=some (.ret (.tup []),hp') ∧ Wrote hp hp' b F F' (bs++entB c e lv):=by
 obtain ⟨m,rfl⟩:=pre1 n
 have hR:=znu e lv
 have:=zcp (n:=m) (c:=cfg0) (args:=[.agg xs,.ptr b 0 0,e.av,i64 c]) (h:=hp) (R:=fun v hp'=>v=.tup [] ∧ ∃ F',Wrote hp hp' b F F' (bs++entB c e lv)) F280 rfl rfl ?_
 ·obtain ⟨v,hp',e,rfl,F',hW⟩:=this
  exact ⟨hp',F',e,hW⟩
 obtain ⟨w0,x0,nx0⟩:=w.app (.cells 0 (some 296) xs 0)
 obtain ⟨w1,e1,ne1⟩:=w0.app (.cells 0 (some 147) e.cells 0)
 have x1:=za8 (x:=.cells 0 (some 147) e.cells 0) x0
 have hk:(e.key.drop c).length=e.key.length-c:=by simp
 unfold Entry.Nn at hN
 conv=>whnf
 rw [hs]
 conv=>whnf
 refine ldI e1 ?_
 conv=>whnf
 refine zI (z:=(e.key.length:Int)-c) (zad (by omega) (by omega)) ?_
 conv=>whnf
 refine numC (by omega) w1 ((e.key.length:Int)-c) (by omega) 1 (by omega) (by omega) fun h2 F2 w2=>?_
 obtain ⟨x2,nx2⟩:=w2.keep x1 nx0
 have e2:=(w2.keep e1 ne1).1
 have ne2:=(w2.keep e1 ne1).2
 conv=>whnf
 refine ldI e2 ?_
 conv=>whnf
 refine ss_lo hc ?_
 conv=>whnf
 refine strC (hp:=h2) (by omega) w2.1 (e.key.drop c) (by simp only [List.length_append,zal,hk,Dg.bytes_len];omega) fun h3 F3 w3=>?_
 obtain ⟨x3,nx3⟩:=w3.keep x2 nx2
 have e3:=(w3.keep e2 ne2).1
 have ne3:=(w3.keep e2 ne2).2
 conv=>whnf
 refine ⟨⟨?_,?_⟩,?_⟩
 ·conv=>whnf
  refine ss_lo hc ?_
  rfl
 ·conv=>whnf
  exact ldI e3 rfl
 conv=>whnf
 refine ldI x3 ?_
 refine zdp hx ?_
 have fin:∀ {h':zaa}{F':List Nat}{t:Str},Wrote hp h' b F F' t → t=bs++entB c e lv → ∃ F',Wrote hp h' b F F' (bs++entB c e lv):=fun w q=>⟨_,q ▸ w⟩
 have w3':=(w2.trans w3).of_app.of_app
 have hk1:(e.key.drop c).length=e.key.length-c:=by simp
 have hk2:((e.key.length:Int)-c).toNat=e.key.length-c:=by omega
 conv=>whnf
 refine brd (fun a=>?_) (fun a=>?_)
 ·conv=>whnf
  refine ldI e3 ?_
  conv=>whnf
  refine numC (n:=m) (hp:=h3) (by omega) w3.1 _ (by omega) 4 (by omega) (by simp only [List.length_append,zal,hk,Dg.bytes_len];omega) fun h4 F4 w4=>?_
  have e4:=(w4.keep e3 ne3).1
  have ne4:=(w4.keep e3 ne3).2
  conv=>whnf
  refine ldI e4 ?_
  conv=>whnf
  refine numC (n:=m) (hp:=h4) (by omega) w4.1 _ (by omega) 4 (by omega) (by simp only [List.length_append,zal,hk,Dg.bytes_len];omega) fun h5 F5 w5=>?_
  have e5:=(w5.keep e4 ne4).1
  have ne5:=(w5.keep e4 ne4).2
  conv=>whnf
  refine ldI e5 ?_
  conv=>whnf
  refine sumC (n:=m) (hp:=h5) (by omega) w5.1 e.sum (by simp only [List.length_append,zal,hk,Dg.bytes_len];omega) fun h6 F6 w6=>?_
  refine ⟨rfl,[],rfl,rfl,fin (w3'.trans (w4.trans (w5.trans w6))) ?_⟩
  simp [entB,zhk,a,hk2,List.append_assoc]
 ·conv=>whnf
  refine ldI e3 ?_
  conv=>whnf
  refine brd (fun d=>?_) (fun d=>?_)
  ·conv=>whnf
   refine numC (n:=m) (hp:=h3) (by omega) w3.1 65535 (by omega) 2 (by omega) (by simp only [List.length_append,zal,hk,Dg.bytes_len];omega) fun h4 F4 w4=>?_
   have e4:=(w4.keep e3 ne3).1
   have ne4:=(w4.keep e3 ne3).2
   conv=>whnf
   refine ldI e4 ?_
   conv=>whnf
   refine numC (n:=m) (hp:=h4) (by omega) w4.1 _ (by omega) 4 (by omega) (by simp only [List.length_append,zal,hk,Dg.bytes_len];omega) fun h5 F5 w5=>?_
   have e5:=(w5.keep e4 ne4).1
   have ne5:=(w5.keep e4 ne4).2
   conv=>whnf
   refine ldI e5 ?_
   conv=>whnf
   refine numC (n:=m) (hp:=h5) (by omega) w5.1 _ (by omega) 2 (by omega) (by simp only [List.length_append,zal,hk,Dg.bytes_len];omega) fun h6 F6 w6=>?_
   have e6:=(w6.keep e5 ne5).1
   have ne6:=(w6.keep e5 ne5).2
   conv=>whnf
   refine ldI e6 ?_
   conv=>whnf
   refine sumC (n:=m) (hp:=h6) (by omega) w6.1 e.sum (by simp only [List.length_append,zal,hk,Dg.bytes_len];omega) fun h7 F7 w7=>?_
   refine ⟨rfl,[],rfl,rfl,fin (w3'.trans (w4.trans (w5.trans (w6.trans w7)))) ?_⟩
   simp [entB,zhk,a,d,hk2,List.append_assoc]
  ·conv=>whnf
   refine ldI e3 ?_
   conv=>whnf
   refine brd (fun f=>?_) (fun f=>?_)
   ·conv=>whnf
    refine numC (n:=m) (hp:=h3) (by omega) w3.1 65534 (by omega) 2 (by omega) (by simp only [List.length_append,zal,hk,Dg.bytes_len];omega) fun h4 F4 w4=>?_
    have e4:=(w4.keep e3 ne3).1
    have ne4:=(w4.keep e3 ne3).2
    conv=>whnf
    refine ldI e4 ?_
    conv=>whnf
    refine numC (n:=m) (hp:=h4) (by omega) w4.1 _ (by omega) 4 (by omega) (by simp only [List.length_append,zal,hk,Dg.bytes_len];omega) fun h5 F5 w5=>?_
    have e5:=(w5.keep e4 ne4).1
    have ne5:=(w5.keep e4 ne4).2
    conv=>whnf
    refine ldI e5 ?_
    conv=>whnf
    refine numC (n:=m) (hp:=h5) (by omega) w5.1 _ (by omega) 4 (by omega) (by simp only [List.length_append,zal,hk,Dg.bytes_len];omega) fun h6 F6 w6=>?_
    have e6:=(w6.keep e5 ne5).1
    have ne6:=(w6.keep e5 ne5).2
    conv=>whnf
    refine ldI e6 ?_
    conv=>whnf
    refine sumC (n:=m) (hp:=h6) (by omega) w6.1 e.sum (by simp only [List.length_append,zal,hk,Dg.bytes_len];omega) fun h7 F7 w7=>?_
    refine ⟨rfl,[],rfl,rfl,fin (w3'.trans (w4.trans (w5.trans (w6.trans w7)))) ?_⟩
    simp [entB,zhk,a,d,f,hk2,List.append_assoc]
   ·conv=>whnf
    refine ldI e3 ?_
    conv=>whnf
    refine numC (n:=m) (hp:=h3) (by omega) w3.1 _ (by omega) 2 (by omega) (by simp only [List.length_append,zal,hk,Dg.bytes_len];omega) fun h4 F4 w4=>?_
    have e4:=(w4.keep e3 ne3).1
    have ne4:=(w4.keep e3 ne3).2
    conv=>whnf
    refine ldI e4 ?_
    conv=>whnf
    refine strC (hp:=h4) (by omega) w4.1 e.val (by simp only [List.length_append,zal,hk,Dg.bytes_len];omega) fun h5 F5 w5=>?_
    have e5:=(w5.keep e4 ne4).1
    have ne5:=(w5.keep e4 ne4).2
    conv=>whnf
    refine ⟨?_,?_⟩
    ·conv=>whnf
     exact ldI e5 rfl
    refine ⟨rfl,[],rfl,rfl,fin (w3'.trans (w4.trans w5)) ?_⟩
    simp [entB,zhk,a,d,f,hk2,List.append_assoc]
end
abbrev tRdr:Nat:=312
def badV:AV:=.ifc 314 (.agg [])
def RDs (hp:zaa) (b:Nat) (s:Str):Prop:=∃ (all:Str) (at':Nat),hp[b]?=some (.cells 0 (some tRdr) [.str all,i64 at'] 0) ∧ at' ≤ all.length ∧ all.length<1073741824 ∧ all.drop at'=s
theorem RDs.stays {hp hp':zaa}{b:Nat}{s:Str}{F:List Nat}(r:RDs hp b s) (k:Keep hp hp' F) (hb:b ∉ F):RDs hp' b s:=by
 obtain ⟨all,a,h1,h2,h3,h4⟩:=r
 exact ⟨all,a,by rw [k.2 b (zac h1) hb];exact h1,h2,h3,h4⟩
theorem RDs.lt {hp:zaa}{b:Nat}{s:Str}(r:RDs hp b s):b<hp.length:=by
 obtain ⟨all,a,h1,_⟩:=r;exact zac h1
theorem RDs.len {hp:zaa}{b:Nat}{s:Str}(r:RDs hp b s):s.length<1073741824:=by
 obtain ⟨all,a,h1,h2,h3,rfl⟩:=r
 simp;omega
theorem Keep.get {h h':zaa}{F:List Nat}{x:Nat}{v:AB}(k:Keep h h' F) (hx:h[x]?=some v) (hn:x ∉ F):h'[x]?=some v:=by
 rw [k.2 x (zac hx) hn];exact hx
section
variable {n:Nat}{hp:zaa}{b:Nat}{s:Str}{K X:AV → zaa → Prop}
theorem zpj (hn:1 ≤ n) (r:RDs hp b s) (k:Nat) (hk:k ≤ s.length):∃ hp',C n 249 [.ptr b 0 0,i64 k] hp=some (.ret (.str (s.take k)),hp') ∧ RDs hp' b (s.drop k) ∧ Keep hp hp' [b]:=by
 obtain ⟨m,rfl⟩:=pre1 n
 obtain ⟨all,a,h1,h2,h3,rfl⟩:=r
 rw [List.length_drop] at hk
 refine ⟨hp.set b (.cells 0 (some tRdr) [.str all,i64 ((a+k:Nat))] 0),?_,⟨all,a+k,by rw [List.getElem?_set_self (zac h1)],by omega,h3,by rw [List.drop_drop]⟩,Keep.set (by simp)⟩
 refine za2 F249 rfl rfl ?_
 conv=>whnf
 refine ldI h1 ?_
 conv=>whnf
 refine ldI h1 ?_
 conv=>whnf
 refine zI (z:=(all.length:Int)-a) (zad (by omega) (by omega)) ?_
 conv=>whnf
 refine brd (fun q=>absurd q (by omega)) (fun _=>?_)
 conv=>whnf
 refine ldI h1 ?_
 conv=>whnf
 refine ldI h1 ?_
 conv=>whnf
 refine ldI h1 ?_
 conv=>whnf
 refine zI (z:=((a+k:Nat):Int)) (by rw [zad (by omega) (by omega)];rfl) ?_
 conv=>whnf
 refine zix (by omega) (by omega) ?_
 conv=>whnf
 refine ldI h1 ?_
 conv=>whnf
 refine zI (z:=((a+k:Nat):Int)) (by rw [zad (by omega) (by omega)];rfl) ?_
 conv=>whnf
 refine stJ h1 ?_
 refine ⟨rfl,[.str ((all.take (a+k)).drop a)],rfl,?_,rfl⟩
 show AV.str _=AV.str _
 rw [List.drop_take,Nat.add_sub_cancel_left]
theorem zl4 (hn:1 ≤ n) (r:RDs hp b s) (k:Nat) (hk:s.length<k) (hk2:k<1099511627776):C n 249 [.ptr b 0 0,i64 k] hp=some (.pan badV,hp):=by
 obtain ⟨m,rfl⟩:=pre1 n
 obtain ⟨all,a,h1,h2,h3,rfl⟩:=r
 rw [List.length_drop] at hk
 have:=zbh (n:=m) (c:=cfg0) (args:=[.ptr b 0 0,i64 k]) (h:=hp) (R:=fun r h=>r=.pan badV ∧ h=hp) F249 rfl rfl ?_
 ·obtain ⟨r,h',e,rfl,rfl⟩:=this;exact e
 conv=>whnf
 refine ldI h1 ?_
 conv=>whnf
 refine ldI h1 ?_
 conv=>whnf
 refine zI (z:=(all.length:Int)-a) (zad (by omega) (by omega)) ?_
 conv=>whnf
 refine brd (fun _=>?_) (fun q=>absurd (by omega) q)
 conv=>whnf
 exact ⟨rfl,rfl⟩
theorem zus (hn:1 ≤ n) (r:RDs hp b s) (k:Nat) (hk2:k<1099511627776) (ok:∀ hp',k ≤ s.length → RDs hp' b (s.drop k) → Keep hp hp' [b] → K (.str (s.take k)) hp') (bad:s.length<k → X badV hp) :
  ∃ r h',C n 249 [.ptr b 0 0,i64 k] hp=some (r,h') ∧ WpR K X h' r:=by
 by_cases hk:k ≤ s.length
 ·obtain ⟨hp',e,g1,g2⟩:=zpj hn r k hk
  exact clI e (ok hp' hk g1 g2)
 ·exact clP (zl4 hn r k (by omega) hk2) (bad (by omega))
def zaf (s:Str):Nat:=s.foldl (fun n b=>n*256+b.toNat) 0
theorem zgp (s:Str) (c:UInt8):zaf (s++[c])=zaf s*256+c.toNat:=by simp [zaf]
theorem zb6:∀ (k:Nat) (s:Str),s.length=k → zaf s<256 ^ k
 | 0,s,h=>by have:=List.length_eq_zero_iff.1 h;subst this;simp [zaf]
 | k+1,s,h=>by
  obtain ⟨t,c,rfl⟩ : ∃ t c,s=t++[c]:=⟨s.dropLast,s.getLast (by intro e;subst e;simp at h),(List.dropLast_concat_getLast _).symm⟩
  have:=zb6 k t (by simpa using h)
  have hc:=c.toNat_lt
  rw [zgp,Nat.pow_succ]
  omega
theorem zvt (x:Nat) (c:UInt8) (hx:x<36028797018963968):IntKind.i64.wrap (BitVec.ofInt IntKind.i64.bits ((x*256:Nat):Int) ||| BitVec.ofInt IntKind.i64.bits ((c.toNat:Nat):Int)).toNat=((x*256+c.toNat:Nat):Int):=by
 have hc:=c.toNat_lt
 have e:(BitVec.ofInt 64 ((x*256:Nat):Int) ||| BitVec.ofInt 64 ((c.toNat:Nat):Int)).toNat=x*256+c.toNat:=by
  rw [BitVec.toNat_or,BitVec.ofInt_natCast,BitVec.ofInt_natCast,BitVec.toNat_ofNat,BitVec.toNat_ofNat,Nat.mod_eq_of_lt (by omega),Nat.mod_eq_of_lt (by omega)]
  have:=Nat.shiftLeft_add_eq_or_of_lt (show c.toNat<2 ^ 8 by omega) x
  rw [Nat.shiftLeft_eq] at this
  exact this.symm
 show IntKind.i64.wrap ((BitVec.ofInt 64 ((x*256:Nat):Int) ||| BitVec.ofInt 64 ((c.toNat:Nat):Int)).toNat:Int)=_
 rw [e]
 exact zad (by omega) (by omega)
theorem zrb (x:Nat) (hx:x<36028797018963968):IntKind.i64.wrap ((x:Int)*2 ^ (min (8:Int).toNat IntKind.i64.bits))=((x*256:Nat):Int):=by
 have:min (8:Int).toNat IntKind.i64.bits=8:=by decide
 rw [this,zad (by omega) (by omega)]
 omega
theorem z12 (hn:2 ≤ n) (r:RDs hp b s) (w:Nat) (hw:w ≤ 6) (hk:w ≤ s.length):∃ hp',C n 229 [.ptr b 0 0,i64 w] hp=some (.ret (i64 (zaf (s.take w))),hp') ∧ RDs hp' b (s.drop w) ∧ Keep hp hp' [b]:=by
 obtain ⟨m,rfl⟩:=pre1 n
 obtain ⟨h1,e1,r1,k1⟩:=zpj (n:=m) (by omega) r w hk
 have ht:(s.take w).length=w:=by rw [List.length_take];omega
 refine ⟨h1++[.cells 0 none ((s.take w).map u8) 0],?_,r1.stays (Keep.app h1 _ []) (by simp),k1.trans ((Keep.app h1 _ []).mono (by simp)) (fun x hx=>.inl hx)⟩
 refine za2 F229 rfl rfl ?_
 conv=>whnf
 refine clI e1 ?_
 conv=>whnf
 refine za7 (by decide) rfl (α:=Nat) (fun j=>⟨[(5,i64 (zaf ((s.take w).take j))),(11,.sl 1 h1.length 0 0 (s.take w).length),(12,i64 (s.take w).length),(13,i64 j)],h1++[.cells 0 none ((s.take w).map u8) 0],[]⟩) (fun j=>j ≤ w) (fun j=>w-j) 0 ⟨⟨rfl,rfl,rfl,rfl⟩,rfl,rfl⟩ (Nat.zero_le _) (by show w-0<KK;simp only [KK];omega) ?_
 intro j hj
 conv=>whnf
 refine brd (fun a=>?_) (fun a=>?_)
 ·have hjw:j<w:=by omega
  have hjt:j<(s.take w).length:=by omega
  have hb:=zb6 j ((s.take w).take j) (by rw [List.length_take];omega)
  have hb2:256 ^ j ≤ 256 ^ 5:=Nat.pow_le_pow_right (by decide) (by omega)
  have hst:zaf ((s.take w).take j)*256+((s.take w)[j]).toNat=zaf ((s.take w).take (j+1)):=by
   rw [List.take_succ_eq_append_getElem hjt,zgp]
  have hx:zaf ((s.take w).take j)<36028797018963968:=by
   have:(256:Nat) ^ 5=1099511627776:=by decide
   omega
  conv=>whnf
  refine ⟨by omega,by omega,rfl,?_⟩
  conv=>whnf
  refine ldI (zag _ _) ?_
  refine zdp (v:=u8 ((s.take w)[j])) (by show ((s.take w).map u8)[0+(j:Int).toNat*1]?=_;rw [Int.toNat_natCast,Nat.zero_add,Nat.mul_one,List.getElem?_map,List.getElem?_eq_getElem hjt];rfl) ?_
  conv=>whnf
  refine ⟨by decide,_,zrb _ hx,?_⟩
  conv=>whnf
  refine zI (z:=(((s.take w)[j]).toNat:Int)) (by have:=((s.take w)[j]).toNat_lt;exact zad (by omega) (by omega)) ?_
  conv=>whnf
  refine zI (zvt _ _ hx) ?_
  conv=>whnf
  refine zJ j ?_
  exact nxI (j+1) hjw (by omega) ⟨⟨by rw [← hst];rfl,rfl,rfl,rfl⟩,rfl,rfl⟩
 ·have hjw:j=w:=by omega
  subst hjw
  conv=>whnf
  refine cutI (by decide) rfl (t:=⟨[(5,i64 (zaf (s.take j)))],h1++[.cells 0 none ((s.take j).map u8) 0],[]⟩) ⟨by show some (i64 (zaf ((s.take j).take j)))=_;rw [List.take_take,Nat.min_self],rfl,rfl⟩ ?_
  exact ⟨rfl,[i64 (zaf (s.take j))],rfl,rfl,rfl⟩
theorem zy6 (hn:2 ≤ n) (r:RDs hp b s) (w:Nat) (hw:w ≤ 6) (hk:s.length<w):C n 229 [.ptr b 0 0,i64 w] hp=some (.pan badV,hp):=by
 obtain ⟨m,rfl⟩:=pre1 n
 have:=zbh (n:=m) (c:=cfg0) (args:=[.ptr b 0 0,i64 w]) (h:=hp) (R:=fun r h=>r=.pan badV ∧ h=hp) F229 rfl rfl ?_
 ·obtain ⟨r,h',e,rfl,rfl⟩:=this;exact e
 conv=>whnf
 refine clP (zl4 (n:=m) (by omega) r w hk (by omega)) ?_
 exact ⟨rfl,rfl⟩
theorem zc5 (hn:2 ≤ n) (r:RDs hp b s) (w:Nat) (hw:w ≤ 6) (ok:∀ hp',w ≤ s.length → RDs hp' b (s.drop w) → Keep hp hp' [b] → K (i64 (zaf (s.take w))) hp') (bad:s.length<w → X badV hp) :
  ∃ r h',C n 229 [.ptr b 0 0,i64 w] hp=some (r,h') ∧ WpR K X h' r:=by
 by_cases hk:w ≤ s.length
 ·obtain ⟨hp',e,g1,g2⟩:=z12 hn r w hw hk
  exact clI e (ok hp' hk g1 g2)
 ·exact clP (zy6 hn r w hw (by omega)) (bad (by omega))
end
theorem zbk {h:zaa}{t N b ver:Nat}{el:Option TypeId}{cs:List AV}{f:Nat}(ht:(ti Tryz.prog t).map (fun d=>(za9 d.desc,d.size))=some (true,N)) (hN:cs.length=N) (hb:h[b]?=some (.cells ver el cs f)):zbv Tryz.prog h t (.ptr b ver 0)=some (.agg cs):=by
 obtain ⟨d,h1,h2⟩:=Option.map_eq_some_iff.1 ht
 simp only [Prod.mk.injEq] at h2
 unfold zbv
 simp only [h1,hb,if_true]
 unfold zdw
 rw [h2.1,h2.2,← hN]
 simp
theorem zrs {h:zaa}{t b ver:Nat}{el:Option TypeId}{v:AV}{f N:Nat}(ht:(ti Tryz.prog t).map (fun d=>(za9 d.desc,d.size))=some (false,N)) (hb:h[b]?=some (.cells ver el [v] f)):zbv Tryz.prog h t (.ptr b ver 0)=some v:=by
 obtain ⟨d,h1,h2⟩:=Option.map_eq_some_iff.1 ht
 simp only [Prod.mk.injEq] at h2
 unfold zbv
 simp only [h1,hb,if_true]
 unfold zdw
 rw [h2.1]
 rfl
def dgOf (t:Str):Dg:=⟨t.getD 0 0,t.getD 1 0,t.getD 2 0,t.getD 3 0,t.getD 4 0,t.getD 5 0,t.getD 6 0,t.getD 7 0,t.getD 8 0,t.getD 9 0,t.getD 10 0,t.getD 11 0,t.getD 12 0,t.getD 13 0,t.getD 14 0,t.getD 15 0⟩
theorem zlt:∀ (t:Str),t.length=16 → (dgOf t).bytes=t
 | [a0,a1,a2,a3,a4,a5,a6,a7,a8,a9,a10,a11,a12,a13,a14,a15],_=>rfl
theorem zls {t:Str}(h:t.length=16):(dgOf t).cells=t.map u8:=by rw [Dg.cells_map,zlt t h]
section
variable {n:Nat}{hp:zaa}{b:Nat}{s:Str}{K X:AV → zaa → Prop}
theorem z1y (hn:2 ≤ n) (r:RDs hp b s) (hk:16 ≤ s.length):∃ hp',C n 259 [.ptr b 0 0] hp=some (.ret (.agg (dgOf (s.take 16)).cells),hp') ∧ RDs hp' b (s.drop 16) ∧ Keep hp hp' [b]:=by
 obtain ⟨m,rfl⟩:=pre1 n
 have ht:(s.take 16).length=16:=by rw [List.length_take];omega
 have k0:Keep hp (hp++[AB.cells 0 (some 23) Dg.zero.cells 0]++[AB.cells 0 (some 23) Dg.zero.cells 0]) []:=(Keep.app hp _ []).trans (Keep.app _ _ []) (by simp)
 have hlen:(hp++[AB.cells 0 (some 23) Dg.zero.cells 0]).length=hp.length+1:=by simp
 have d1:(hp++[AB.cells 0 (some 23) Dg.zero.cells 0]++[AB.cells 0 (some 23) Dg.zero.cells 0])[hp.length]?=some (.cells 0 (some 23) Dg.zero.cells 0):=za8 (zag _ _)
 have d2:(hp++[AB.cells 0 (some 23) Dg.zero.cells 0]++[AB.cells 0 (some 23) Dg.zero.cells 0])[(hp++[AB.cells 0 (some 23) Dg.zero.cells 0]).length]?=some (.cells 0 (some 23) Dg.zero.cells 0):=zag _ _
 obtain ⟨h1,e1,r1,k1⟩:=zpj (n:=m) (by omega) (r.stays k0 (by simp)) 16 hk
 have hb:=r.lt
 have d1':=k1.get d1 (by simp;omega)
 have d2':=k1.get d2 (by simp;omega)
 have hcells:(dgOf (s.take 16)).cells=(s.take 16).map u8:=zls ht
 have kk:Keep hp h1 [b]:=(k0.mono (by simp)).trans k1 (fun x hx=>.inl hx)
 refine ⟨(h1.set (hp++[AB.cells 0 (some 23) Dg.zero.cells 0]).length (.cells 0 (some 23) (dgOf (s.take 16)).cells 0)).set hp.length (.cells 0 (some 23) (dgOf (s.take 16)).cells 0),?_,?_,?_⟩
 ·refine za2 F259 rfl rfl ?_
  conv=>whnf
  refine ⟨_,_,_,d2,⟨by decide,by decide⟩,?_⟩
  refine slI (v:=.sl 1 (hp++[AB.cells 0 (some 23) Dg.zero.cells 0]).length 0 0 16) rfl ?_
  conv=>whnf
  refine clI e1 ?_
  conv=>whnf
  refine ⟨?_,?_⟩
  ·conv=>whnf
   refine ⟨_,_,_,d2',⟨by decide,by decide⟩,?_⟩
   exact slI (v:=.sl 1 (hp++[AB.cells 0 (some 23) Dg.zero.cells 0]).length 0 0 16) rfl rfl
  conv=>whnf
  have ec:cpyR h1 1 (.sl 1 (hp++[AB.cells 0 (some 23) Dg.zero.cells 0]).length 0 0 16) (.str (s.take 16))=some (.int .i64 16,some (h1.set (hp++[AB.cells 0 (some 23) Dg.zero.cells 0]).length (.cells 0 (some 23) (dgOf (s.take 16)).cells 0))):=by
   unfold cpyR
   simp only [ziz,lenA,ht,Nat.min_self]
   have hf:zax h1 1 16 (.str (s.take 16))=some ((s.take 16).map u8):=by
    have:=zjr h1 (s.take 16)
    rwa [ht] at this
   rw [hf]
   simp only
   rw [if_neg (by decide)]
   rw [d2']
   simp only
   rw [if_pos ⟨trivial,trivial,Nat.le_refl _,by rw [List.length_map,ht];decide,zec _⟩]
   have:putAt Dg.zero.cells 0 ((s.take 16).map u8)=(dgOf (s.take 16)).cells:=by
    rw [hcells]
    unfold putAt
    rw [List.length_map,ht]
    simp [Dg.cells]
   rw [this];rfl
  refine ⟨_,ec,?_⟩
  have e2:(h1.set (hp++[AB.cells 0 (some 23) Dg.zero.cells 0]).length (.cells 0 (some 23) (dgOf (s.take 16)).cells 0))[(hp++[AB.cells 0 (some 23) Dg.zero.cells 0]).length]?=some (.cells 0 (some 23) (dgOf (s.take 16)).cells 0):=by rw [List.getElem?_set_self (zac d2')]
  have e3:(h1.set (hp++[AB.cells 0 (some 23) Dg.zero.cells 0]).length (.cells 0 (some 23) (dgOf (s.take 16)).cells 0))[hp.length]?=some (.cells 0 (some 23) Dg.zero.cells 0):=by rw [List.getElem?_set_ne (by rw [hlen];omega)];exact d1'
  conv=>whnf
  refine ⟨?_,?_⟩
  ·conv=>whnf
   refine ⟨_,_,_,e2,⟨by show 0+16*1 ≤ 16;decide,by decide⟩,?_⟩
   exact slI (v:=.sl 1 (hp++[AB.cells 0 (some 23) Dg.zero.cells 0]).length 0 0 16) rfl rfl
  conv=>whnf
  refine ldI e2 ?_
  conv=>whnf
  refine stJ e3 (xs:=(dgOf (s.take 16)).cells) ?_
  refine ⟨rfl,[.agg (dgOf (s.take 16)).cells],?_,rfl,rfl⟩
  have el:zbv Tryz.prog ((h1.set (hp++[AB.cells 0 (some 23) Dg.zero.cells 0]).length (.cells 0 (some 23) (dgOf (s.take 16)).cells 0)).set hp.length (.cells 0 (some 23) (dgOf (s.take 16)).cells 0)) 23 (.ptr hp.length 0 0)=some (.agg (dgOf (s.take 16)).cells) :=
   zbk (N:=16) (by kernel_rfl) rfl (by rw [List.getElem?_set_self (zac e3)])
  show (match zbv Tryz.prog ((h1.set (hp++[AB.cells 0 (some 23) Dg.zero.cells 0]).length (.cells 0 (some 23) (dgOf (s.take 16)).cells 0)).set hp.length (.cells 0 (some 23) (dgOf (s.take 16)).cells 0)) 23 (.ptr hp.length 0 0) with | some v=>some [v] | none=>none)=_
  rw [el]
 ·refine r1.stays (F:=[(hp++[AB.cells 0 (some 23) Dg.zero.cells 0]).length,hp.length]) ⟨by simp,fun x hx hn=>?_⟩ (by simp;omega)
  simp at hn
  rw [List.getElem?_set_ne (by omega),List.getElem?_set_ne (by rw [hlen];omega)]
 ·exact (kk.set' (.inr (by rw [hlen];omega))).set' (.inr (Nat.le_refl _))
theorem zy2 (hn:2 ≤ n) (r:RDs hp b s) (hk:s.length<16):∃ hp',C n 259 [.ptr b 0 0] hp=some (.pan badV,hp') ∧ Keep hp hp' [b]:=by
 obtain ⟨m,rfl⟩:=pre1 n
 have k0:Keep hp (hp++[AB.cells 0 (some 23) Dg.zero.cells 0]++[AB.cells 0 (some 23) Dg.zero.cells 0]) []:=(Keep.app hp _ []).trans (Keep.app _ _ []) (by simp)
 have d2:(hp++[AB.cells 0 (some 23) Dg.zero.cells 0]++[AB.cells 0 (some 23) Dg.zero.cells 0])[(hp++[AB.cells 0 (some 23) Dg.zero.cells 0]).length]?=some (.cells 0 (some 23) Dg.zero.cells 0):=zag _ _
 have:=zbh (n:=m) (c:=cfg0) (args:=[.ptr b 0 0]) (h:=hp) (R:=fun r h=>r=.pan badV ∧ Keep hp h [b]) F259 rfl rfl ?_
 ·obtain ⟨r,h',e,rfl,q⟩:=this;exact ⟨h',e,q⟩
 conv=>whnf
 refine ⟨_,_,_,d2,⟨by decide,by decide⟩,?_⟩
 refine slI (v:=.sl 1 (hp++[AB.cells 0 (some 23) Dg.zero.cells 0]).length 0 0 16) rfl ?_
 conv=>whnf
 refine clP (zl4 (n:=m) (by omega) (r.stays k0 (by simp)) 16 hk (by omega)) ?_
 exact ⟨rfl,k0.mono (by simp)⟩
theorem rsumC (hn:2 ≤ n) (r:RDs hp b s) (ok:∀ hp',16 ≤ s.length → RDs hp' b (s.drop 16) → Keep hp hp' [b] → K (.agg (dgOf (s.take 16)).cells) hp') (bad:∀ hp',s.length<16 → Keep hp hp' [b] → X badV hp') :
  ∃ r h',C n 259 [.ptr b 0 0] hp=some (r,h') ∧ WpR K X h' r:=by
 by_cases hk:16 ≤ s.length
 ·obtain ⟨hp',e,g1,g2⟩:=z1y hn r hk
  exact clI e (ok hp' hk g1 g2)
 ·obtain ⟨hp',e,g⟩:=zy2 hn r (by omega)
  exact clP e (bad hp' (by omega) g)
end
structure Sh where
 sz:Nat
 c:Bool
structure Freed where
 ver:Int
 sh:Sh
 pages:List Int
def Freed.cells (f:Freed):List AV:=[i64 f.ver,.lst f.sh.sz (f.pages.map i64) f.sh.c]
def Freed.av (f:Freed):AV:=.agg f.cells
def Freed.Ok (f:Freed):Prop:=f.pages≠[] → f.sh.sz=1
theorem zbz (f:Freed):f.av.cells?=some f.cells:=rfl
theorem zcv (k:Int):(i64 k).cells?=some [i64 k]:=rfl
def zh3 (next:Int) (data:Str):Str:=num next.toNat 4++(num data.length 2++data)
def zd0 (l:List Int):Str:=l.flatMap fun n=>num n.toNat 4
def zg7 (f:Freed):Str:=num f.ver.toNat 6++(num f.pages.length 2++zd0 f.pages)
def zbg (l:List Freed):Str:=l.flatMap zg7
def zn7 (next:Int) (l:List Freed):Str:=num next.toNat 4++(num l.length 2++zbg l)
theorem zlb (l:List Int):(zd0 l).length=4*l.length:=by
 induction l with
 | nil=>rfl
 | cons a r ih=>simp only [zd0,List.flatMap_cons,List.length_append,zal,List.length_cons] at ih ⊢;omega
theorem zll (f:Freed):(zg7 f).length=8+4*f.pages.length:=by
 simp only [zg7,List.length_append,zal,zlb];omega
theorem zpy (l:List Int) (j:Nat) (hj:j<l.length):zd0 (l.take (j+1))=zd0 (l.take j)++num (l[j]).toNat 4:=by
 rw [List.take_succ_eq_append_getElem hj];simp only [zd0,List.flatMap_append,List.flatMap_cons,List.flatMap_nil,List.append_nil]
theorem zof (l:List Freed) (j:Nat) (hj:j<l.length):zbg (l.take (j+1))=zbg (l.take j)++zg7 l[j]:=by
 rw [List.take_succ_eq_append_getElem hj];simp only [zbg,List.flatMap_append,List.flatMap_cons,List.flatMap_nil,List.append_nil]
theorem zic (l:List Freed) (j:Nat) (hj:j<l.length):(zbg (l.take j)).length+(zg7 l[j]).length ≤ (zbg l).length:=by
 have:zbg l=zbg (l.take j)++(zg7 l[j]++zbg (l.drop (j+1))):=by
  conv=>lhs;rw [← List.take_append_drop j l,List.drop_eq_getElem_cons hj]
  simp only [zbg,List.flatMap_append,List.flatMap_cons]
 rw [this];simp only [List.length_append];omega
section
variable {n:Nat}{hp:zaa}{b:Nat}{bs:Str}{F:List Nat}{K X:AV → zaa → Prop}
theorem zzi (hn:4 ≤ n) (w:BW hp b bs F) (next:Int) (h0:0 ≤ next) (data:Str) (hl:bs.length+data.length+6 ≤ 1073741824) :
  ∃ hp' F',C n 276 [.agg [i64 next,.str data],.ptr b 0 0] hp=some (.ret (.tup []),hp') ∧ Wrote hp hp' b F F' (bs++zh3 next data):=by
 obtain ⟨m,rfl⟩:=pre1 n
 have:=zcp (n:=m) (c:=cfg0) (args:=[.agg [i64 next,.str data],.ptr b 0 0]) (h:=hp) (R:=fun v hp'=>v=.tup [] ∧ ∃ F',Wrote hp hp' b F F' (bs++zh3 next data)) F276 rfl rfl ?_
 ·obtain ⟨v,hp',e,rfl,F',hW⟩:=this
  exact ⟨hp',F',e,hW⟩
 obtain ⟨w1,e1,ne1⟩:=w.app (.cells 0 (some 292) [i64 next,.str data] 0)
 conv=>whnf
 refine ldI e1 ?_
 conv=>whnf
 refine numC (n:=m) (hp:=hp++[.cells 0 (some 292) [i64 next,.str data] 0]) (by omega) w1 next h0 4 (by omega) (by omega) fun h2 F2 w2=>?_
 have e2:=(w2.keep e1 ne1).1
 have ne2:=(w2.keep e1 ne1).2
 conv=>whnf
 refine ldI e2 ?_
 conv=>whnf
 refine numC (n:=m) (hp:=h2) (by omega) w2.1 _ (by omega) 2 (by omega) (by simp only [List.length_append,zal];omega) fun h3 F3 w3=>?_
 have e3:=(w3.keep e2 ne2).1
 have ne3:=(w3.keep e2 ne2).2
 conv=>whnf
 refine ldI e3 ?_
 conv=>whnf
 refine strC (n:=m) (hp:=h3) (by omega) w3.1 data (by simp only [List.length_append,zal];omega) fun h4 F4 w4=>?_
 have e4:=(w4.keep e3 ne3).1
 conv=>whnf
 refine ⟨?_,?_⟩
 ·conv=>whnf
  exact ldI e4 rfl
 refine ⟨rfl,[],rfl,rfl,F4,?_⟩
 have:=(w2.trans (w3.trans w4)).of_app
 simpa [zh3,List.append_assoc] using this
theorem zs4 {m:Nat}(hm:3 ≤ m) (l:List Int) (sz:Nat) (hz:l≠[] → sz=1) (c:Bool) (hnn:∀ k∈l,0 ≤ k) (w:BW hp b bs F) (hl:bs.length+4*l.length ≤ 1073741824) {Q:Ex → LS → Prop}{s:LS}(v18 v19 v20:AV)
  (hs:LS.sub ⟨[(1,.ptr b 0 0),(18,v18),(19,v19),(20,v20),(34,.lst sz (l.map i64) c),(35,i64 l.length),(36,i64 0)],hp,[]⟩ s)
  (hE:∀ h' F',Wrote hp h' b F F' (bs++zd0 l) → ∀ L,subL [(1,.ptr b 0 0),(18,v18),(19,v19),(20,v20)] L → Q (.exit 2) ⟨L,h',[]⟩):OkR Tryz.prog (C m) cfg0.inl KK 45 6 (.loop (c277.lp 1)) s Q:=by
 refine za7 (by decide) rfl (α:=Nat × List Nat × zaa) (fun x=>⟨[(1,.ptr b 0 0),(18,v18),(19,v19),(20,v20),(34,.lst sz (l.map i64) c),(35,i64 l.length),(36,i64 x.1)],x.2.2,[]⟩)
  (fun x=>x.1 ≤ l.length ∧ Wrote hp x.2.2 b F x.2.1 (bs++zd0 (l.take x.1))) (fun x=>l.length-x.1) (0,F,hp) hs ⟨Nat.zero_le _,by simpa [zd0] using Wrote.refl w⟩ (by show l.length-0<KK;simp only [KK];omega) ?_
 rintro ⟨j,G,h1⟩ ⟨g1,g2⟩
 simp only at g1 g2
 conv=>whnf
 refine brd (fun a=>?_) (fun a=>?_)
 ·have hj:j<l.length:=by simp only at a;omega
  have hlen:(zd0 (l.take j)).length=4*j:=by rw [zlb,List.length_take];omega
  conv=>whnf
  refine ixL zcv hj hz ?_
  conv=>whnf
  refine numC (n:=m) (hp:=h1) (by omega) g2.1 l[j] (hnn _ (List.getElem_mem hj)) 4 (by omega) (by simp only [List.length_append,hlen];omega) fun h2 F2 w2=>?_
  conv=>whnf
  refine zJ j ?_
  refine nxI (j+1,F2,h2) ⟨hj,?_⟩ (by simp only;omega) ⟨⟨rfl,rfl,rfl,rfl,rfl,rfl,rfl⟩,rfl,rfl⟩
  have:=g2.trans w2
  rwa [List.append_assoc,← zpy l j hj] at this
 ·have hj:j=l.length:=by simp only at a;omega
  subst hj
  rw [List.take_length] at g2
  conv=>whnf
  exact hE h1 G g2 _ ⟨rfl,rfl,rfl,rfl⟩
theorem z2w (hn:4 ≤ n) (w:BW hp b bs F) (next:Int) (h0:0 ≤ next) (l:List Freed) (sz:Nat) (hz:l≠[] → sz=2) (c:Bool) (hk:∀ f∈l,f.Ok ∧ 0 ≤ f.ver ∧ ∀ k∈f.pages,0 ≤ k) (hl:bs.length+(zbg l).length+l.length+6 ≤ 1073741824) :
  ∃ hp' F',C n 277 [.agg [i64 next,.lst sz (l.map Freed.av) c],.ptr b 0 0] hp=some (.ret (.tup []),hp') ∧ Wrote hp hp' b F F' (bs++zn7 next l):=by
 obtain ⟨m,rfl⟩:=pre1 n
 have:=zcp (n:=m) (c:=cfg0) (args:=[.agg [i64 next,.lst sz (l.map Freed.av) c],.ptr b 0 0]) (h:=hp) (R:=fun v hp'=>v=.tup [] ∧ ∃ F',Wrote hp hp' b F F' (bs++zn7 next l)) F277 rfl rfl ?_
 ·obtain ⟨v,hp',e,rfl,F',hW⟩:=this
  exact ⟨hp',F',e,hW⟩
 obtain ⟨w1,e1,ne1⟩:=w.app (.cells 0 (some 294) [i64 next,.lst sz (l.map Freed.av) c] 0)
 conv=>whnf
 refine ldI e1 ?_
 conv=>whnf
 refine numC (n:=m) (hp:=hp++[.cells 0 (some 294) [i64 next,.lst sz (l.map Freed.av) c] 0]) (by omega) w1 next h0 4 (by omega) (by omega) fun h2 F2 w2=>?_
 have e2:=(w2.keep e1 ne1).1
 have ne2:=(w2.keep e1 ne1).2
 conv=>whnf
 refine ldI e2 ?_
 conv=>whnf
 have el:((l.map Freed.av).length:Int)=(l.length:Int):=by rw [List.length_map]
 rw [el]
 refine numC (n:=m) (hp:=h2) (by omega) w2.1 (l.length:Int) (by omega) 2 (by omega) (by simp only [List.length_append,zal];omega) fun h3 F3 w3=>?_
 have e3:=(w3.keep e2 ne2).1
 have ne3:=(w3.keep e2 ne2).2
 have w03:=(w2.trans w3).of_app
 conv=>whnf
 refine ldI e3 ?_
 conv=>whnf
 refine za7 (by decide) rfl (α:=Nat × List Nat × zaa) (fun x=>⟨[(1,.ptr b 0 0),(18,.lst sz (l.map Freed.av) c),(19,i64 l.length),(20,i64 x.1)],x.2.2,[]⟩)
  (fun x=>x.1 ≤ l.length ∧ Wrote hp x.2.2 b F x.2.1 (bs++(num next.toNat 4++(num l.length 2++zbg (l.take x.1))))) (fun x=>l.length-x.1) (0,F3,h3) ⟨⟨rfl,rfl,lenI _ _,rfl⟩,rfl,rfl⟩
  ⟨Nat.zero_le _,by simpa [zbg,List.append_assoc] using w03⟩ (by show l.length-0<KK;simp only [KK];omega) ?_
 rintro ⟨j,G,h4⟩ ⟨g1,g2⟩
 simp only at g1 g2
 conv=>whnf
 refine brd (fun a=>?_) (fun a=>?_)
 ·have hj:j<l.length:=by simp only at a;omega
  obtain ⟨k1,k2,k3⟩:=hk _ (List.getElem_mem hj)
  have hfl:=zic l j hj
  have hfb:=zll l[j]
  have g2':=g2.1
  obtain ⟨u0,x0,nx0⟩:=g2'.app (.cells 0 (some 145) l[j].cells 0)
  conv=>whnf
  refine ixL zbz hj hz ?_
  conv=>whnf
  refine stJ (zag _ _) ?_
  have es:(h4++[AB.cells 0 (some 145) [i64 0,.lst 0 [] true] 0]).set h4.length (.cells 0 (some 145) l[j].cells 0)=h4++[.cells 0 (some 145) l[j].cells 0]:=by simp
  conv=>whnf
  refine ldI (zae _ _ _) ?_
  conv=>whnf
  have u1:BW ((h4++[AB.cells 0 (some 145) [i64 0,.lst 0 [] true] 0]).set h4.length (.cells 0 (some 145) l[j].cells 0)) b _ G:=es ▸ u0
  have x1:((h4++[AB.cells 0 (some 145) [i64 0,.lst 0 [] true] 0]).set h4.length (.cells 0 (some 145) l[j].cells 0))[h4.length]?=some (.cells 0 (some 145) l[j].cells 0):=es ▸ x0
  refine numC (n:=m) (hp:=(h4++[AB.cells 0 (some 145) [i64 0,.lst 0 [] true] 0]).set h4.length (.cells 0 (some 145) l[j].cells 0)) (by omega) u1 l[j].ver k2 6 (by omega) (by simp only [List.length_append,zal];omega) fun h5 F5 w5=>?_
  have x5:=(w5.keep x1 nx0).1
  have nx5:=(w5.keep x1 nx0).2
  have w5':Wrote h4 h5 b G F5 _:=Wrote.of_app (es ▸ w5)
  conv=>whnf
  refine ldI x5 ?_
  conv=>whnf
  have el2:(((l[j]).pages.map i64).length:Int)=((l[j]).pages.length:Int):=by rw [List.length_map]
  rw [el2]
  refine numC (n:=m) (hp:=h5) (by omega) w5.1 ((l[j]).pages.length:Int) (by omega) 2 (by omega) (by simp only [List.length_append,zal];omega) fun h6 F6 w6=>?_
  have x6:=(w6.keep x5 nx5).1
  conv=>whnf
  refine ldI x6 ?_
  conv=>whnf
  refine zs4 (by omega) l[j].pages l[j].sh.sz k1 l[j].sh.c k3 w6.1 (by simp only [List.length_append,zal];omega) (.lst sz (l.map Freed.av) c) (i64 l.length) (i64 j) ⟨⟨rfl,rfl,rfl,rfl,rfl,lenI i64 _,rfl⟩,rfl,rfl⟩ fun h7 F7 w7 L hL=>?_
  refine cutI (by decide) rfl (t:=⟨[(1,.ptr b 0 0),(18,.lst sz (l.map Freed.av) c),(19,i64 l.length),(20,i64 j)],h7,[]⟩) ⟨hL,rfl,rfl⟩ ?_
  conv=>whnf
  refine zJ j ?_
  refine nxI (j+1,F7,h7) ⟨hj,?_⟩ (by simp only;omega) ⟨⟨rfl,rfl,rfl,rfl⟩,rfl,rfl⟩
  have:=g2.trans (w5'.trans (w6.trans w7))
  simp only [zof l j hj,zg7]
  simpa [List.append_assoc] using this
 ·have hj:j=l.length:=by simp only at a;omega
  subst hj
  rw [List.take_length] at g2
  conv=>whnf
  refine ⟨rfl,[],rfl,rfl,G,?_⟩
  exact g2
end
def zef (k:Nat) (s:Str):Option (Str × Str):=if k ≤ s.length then some (s.take k,s.drop k) else none
def pnum (w:Nat) (s:Str):Option (Nat × Str):=if w ≤ s.length then some (zaf (s.take w),s.drop w) else none
def psum (s:Str):Option (Dg × Str):=if 16 ≤ s.length then some (dgOf (s.take 16),s.drop 16) else none
def zbb (key:Str) (long:Nat) (s:Str):Option (Entry × Str) :=
 if long=65535 then (pnum 4 s).bind fun o=>(pnum 2 o.2).bind fun l=>(psum l.2).map fun d=>(⟨key,[],o.1,l.1,0,0,d.1⟩,d.2)
 else if long=65534 then (pnum 4 s).bind fun o=>(pnum 4 o.2).bind fun l=>(psum l.2).map fun d=>(⟨key,[],0,0,o.1,l.1,d.1⟩,d.2)
 else (zef long s).map fun v=>(⟨key,v.1,0,0,0,0,Dg.zero⟩,v.2)
def ze5 (key:Str) (lv:Int) (s:Str):Option (Entry × Str):=if lv=0 then (pnum 2 s).bind fun l=>zbb key l.1 l.2 else zbb key 65534 s
def keyE (key:Str):Entry:=⟨key,[],0,0,0,0,Dg.zero⟩
def zf7 {α:Type}(o:Option (α × Str)) (R:α → Str → CRes → zaa → Prop) (B:zaa → Prop) (r:CRes) (h:zaa):Prop:=match o with
 | some (a,t)=>R a t r h
 | none=>r=.pan badV ∧ B h
section
variable {n:Nat}{hp:zaa}{b E:Nat}{s:Str}{K X:AV → zaa → Prop}
def ContR (hp:zaa) (b E:Nat) (e:Entry) (t:Str) (r:CRes) (h:zaa):Prop:=r=.ret (.tup []) ∧ RDs h b t ∧ h[E]?=some (.cells 0 (some 147) e.cells 0) ∧ Keep hp h [b,E]
theorem zty (hn:3 ≤ n) (r:RDs hp b s) (key:Str) (hE:hp[E]?=some (.cells 0 (some 147) (keyE key).cells 0)) (hne:E≠b) (lv:Int) :
  ∃ r h,C n 256 [.ptr b 0 0,.ptr E 0 0,i64 lv] hp=some (r,h) ∧ zf7 (ze5 key lv s) (ContR hp b E) (fun h=>Keep hp h [b,E]) r h:=by
 obtain ⟨m,rfl⟩:=pre1 n
 refine zbh (n:=m) (c:=cfg0) (args:=[.ptr b 0 0,.ptr E 0 0,i64 lv]) (h:=hp) F256 rfl rfl ?_
 have kE:∀ {a c:zaa},Keep a c [b] → Keep a c [b,E]:=fun k=>k.mono (by simp)
 have body:∀ (long:Nat) (s1:Str) (h1:zaa) (s':LS),long<65536 → RDs h1 b s1 → Keep hp h1 [b] → LS.sub ⟨[(0,.ptr b 0 0),(1,.ptr E 0 0),(6,i64 long)],h1,[]⟩ s' → OkR Tryz.prog (C m) cfg0.inl KK 52 6 (zew c256) s' (EndQ Tryz.prog (C m) cfg0.inl [] (zf7 (zbb key long s1) (ContR hp b E) (fun h=>Keep hp h [b,E]))):=by
  intro long s1 h1 s' hlong r1 k1 hs'
  have E1:=k1.get hE (by simpa using hne)
  refine cutI (by decide) rfl hs' ?_
  conv=>whnf
  refine bre (fun a=>?_) (fun a=>?_)
  ·have a':long=65535:=by omega
   conv=>whnf
   refine zc5 (n:=m) (hp:=h1) (by omega) r1 4 (by omega) (fun h2 q2 r2 k2=>?_) (fun q=>?_)
   ·conv=>whnf
    refine zc5 (n:=m) (hp:=h2) (by omega) r2 2 (by omega) (fun h3 q3 r3 k3=>?_) (fun q=>?_)
    ·have E3:=k3.get (k2.get E1 (by simpa using hne)) (by simpa using hne)
     conv=>whnf
     refine stJ E3 ?_
     conv=>whnf
     refine stJ (by rw [List.getElem?_set_self (zac E3)]) ?_
     have k13:Keep hp h3 [b,E]:=kE ((k1.trans k2 (fun x hx=>.inl hx)).trans k3 (fun x hx=>.inl hx))
     have k4:Keep hp ((h3.set E (.cells 0 (some 147) (putAt (keyE key).cells (0+2) [i64 (zaf (s1.take 4))]) 0)).set E (.cells 0 (some 147) (putAt (putAt (keyE key).cells (0+2) [i64 (zaf (s1.take 4))]) (0+3) [i64 (zaf ((s1.drop 4).take 2))]) 0)) [b,E]:=(k13.set' (.inl (by simp))).set' (.inl (by simp))
     have r4:RDs ((h3.set E (.cells 0 (some 147) (putAt (keyE key).cells (0+2) [i64 (zaf (s1.take 4))]) 0)).set E (.cells 0 (some 147) (putAt (putAt (keyE key).cells (0+2) [i64 (zaf (s1.take 4))]) (0+3) [i64 (zaf ((s1.drop 4).take 2))]) 0)) b ((s1.drop 4).drop 2):=(r3.stays (Keep.set (F:=[E]) (by simp)) (by simpa using hne.symm)).stays (Keep.set (F:=[E]) (by simp)) (by simpa using hne.symm)
     have E4:((h3.set E (.cells 0 (some 147) (putAt (keyE key).cells (0+2) [i64 (zaf (s1.take 4))]) 0)).set E (.cells 0 (some 147) (putAt (putAt (keyE key).cells (0+2) [i64 (zaf (s1.take 4))]) (0+3) [i64 (zaf ((s1.drop 4).take 2))]) 0))[E]?=some (.cells 0 (some 147) (putAt (putAt (keyE key).cells (0+2) [i64 (zaf (s1.take 4))]) (0+3) [i64 (zaf ((s1.drop 4).take 2))]) 0):=by rw [List.getElem?_set_self (by simp;exact zac E3)]
     conv=>whnf
     refine rsumC (n:=m) (by omega) r4 (fun h5 q5 r5 k5=>?_) (fun h5 q5 k5=>?_)
     ·have E5:=k5.get E4 (by simpa using hne)
      conv=>whnf
      refine stJ E5 (xs:=(dgOf (((s1.drop 4).drop 2).take 16)).cells) ?_
      refine ⟨[],rfl,?_⟩
      have e:zbb key long s1=some (⟨key,[],(zaf (s1.take 4):Nat),(zaf ((s1.drop 4).take 2):Nat),0,0,dgOf (((s1.drop 4).drop 2).take 16)⟩,((s1.drop 4).drop 2).drop 16):=by
       simp only [zbb,a',if_true,pnum,if_pos q2,Option.bind_some,if_pos q3,psum,if_pos q5,Option.map_some]
      rw [e]
      refine ⟨rfl,r5.stays (Keep.set (F:=[E]) (by simp)) (by simpa using hne.symm),?_,(k4.trans (kE k5) (fun x hx=>.inl hx)).set' (.inl (by simp))⟩
      rw [List.getElem?_set_self (zac E5)]
      rfl
     ·conv=>whnf
      have e:zbb key long s1=none:=by
       simp only [zbb,a',if_true,pnum,if_pos q2,Option.bind_some,if_pos q3,psum,if_neg (Nat.not_le.2 q5),Option.map_none]
      rw [e]
      exact ⟨rfl,k4.trans (kE k5) (fun x hx=>.inl hx)⟩
    ·conv=>whnf
     have e:zbb key long s1=none:=by
      simp only [zbb,a',if_true,pnum,if_pos q2,Option.bind_some,if_neg (Nat.not_le.2 q),Option.bind_none]
     rw [e]
     exact ⟨rfl,kE (k1.trans k2 (fun x hx=>.inl hx))⟩
   ·conv=>whnf
    have e:zbb key long s1=none:=by
     simp only [zbb,a',if_true,pnum,if_neg (Nat.not_le.2 q),Option.bind_none]
    rw [e]
    exact ⟨rfl,kE k1⟩
  ·have a':long≠65535:=by omega
   conv=>whnf
   refine bre (fun c=>?_) (fun c=>?_)
   ·have c':long=65534:=by omega
    conv=>whnf
    refine zc5 (n:=m) (hp:=h1) (by omega) r1 4 (by omega) (fun h2 q2 r2 k2=>?_) (fun q=>?_)
    ·conv=>whnf
     refine zc5 (n:=m) (hp:=h2) (by omega) r2 4 (by omega) (fun h3 q3 r3 k3=>?_) (fun q=>?_)
     ·have E3:=k3.get (k2.get E1 (by simpa using hne)) (by simpa using hne)
      conv=>whnf
      refine stJ E3 ?_
      conv=>whnf
      refine stJ (by rw [List.getElem?_set_self (zac E3)]) ?_
      have k13:Keep hp h3 [b,E]:=kE ((k1.trans k2 (fun x hx=>.inl hx)).trans k3 (fun x hx=>.inl hx))
      have k4:Keep hp ((h3.set E (.cells 0 (some 147) (putAt (keyE key).cells (0+4) [i64 (zaf (s1.take 4))]) 0)).set E (.cells 0 (some 147) (putAt (putAt (keyE key).cells (0+4) [i64 (zaf (s1.take 4))]) (0+5) [i64 (zaf ((s1.drop 4).take 4))]) 0)) [b,E]:=(k13.set' (.inl (by simp))).set' (.inl (by simp))
      have r4:RDs ((h3.set E (.cells 0 (some 147) (putAt (keyE key).cells (0+4) [i64 (zaf (s1.take 4))]) 0)).set E (.cells 0 (some 147) (putAt (putAt (keyE key).cells (0+4) [i64 (zaf (s1.take 4))]) (0+5) [i64 (zaf ((s1.drop 4).take 4))]) 0)) b ((s1.drop 4).drop 4):=(r3.stays (Keep.set (F:=[E]) (by simp)) (by simpa using hne.symm)).stays (Keep.set (F:=[E]) (by simp)) (by simpa using hne.symm)
      have E4:((h3.set E (.cells 0 (some 147) (putAt (keyE key).cells (0+4) [i64 (zaf (s1.take 4))]) 0)).set E (.cells 0 (some 147) (putAt (putAt (keyE key).cells (0+4) [i64 (zaf (s1.take 4))]) (0+5) [i64 (zaf ((s1.drop 4).take 4))]) 0))[E]?=some (.cells 0 (some 147) (putAt (putAt (keyE key).cells (0+4) [i64 (zaf (s1.take 4))]) (0+5) [i64 (zaf ((s1.drop 4).take 4))]) 0):=by rw [List.getElem?_set_self (by simp;exact zac E3)]
      conv=>whnf
      refine rsumC (n:=m) (by omega) r4 (fun h5 q5 r5 k5=>?_) (fun h5 q5 k5=>?_)
      ·have E5:=k5.get E4 (by simpa using hne)
       conv=>whnf
       refine stJ E5 (xs:=(dgOf (((s1.drop 4).drop 4).take 16)).cells) ?_
       refine ⟨[],rfl,?_⟩
       have e:zbb key long s1=some (⟨key,[],0,0,(zaf (s1.take 4):Nat),(zaf ((s1.drop 4).take 4):Nat),dgOf (((s1.drop 4).drop 4).take 16)⟩,((s1.drop 4).drop 4).drop 16):=by
        simp only [zbb,c',show ¬ (65534:Nat)=65535 by decide,if_true,if_false,pnum,if_pos q2,Option.bind_some,if_pos q3,psum,if_pos q5,Option.map_some]
       rw [e]
       refine ⟨rfl,r5.stays (Keep.set (F:=[E]) (by simp)) (by simpa using hne.symm),?_,(k4.trans (kE k5) (fun x hx=>.inl hx)).set' (.inl (by simp))⟩
       rw [List.getElem?_set_self (zac E5)]
       rfl
      ·conv=>whnf
       have e:zbb key long s1=none:=by
        simp only [zbb,c',show ¬ (65534:Nat)=65535 by decide,if_true,if_false,pnum,if_pos q2,Option.bind_some,if_pos q3,psum,if_neg (Nat.not_le.2 q5),Option.map_none]
       rw [e]
       exact ⟨rfl,k4.trans (kE k5) (fun x hx=>.inl hx)⟩
     ·conv=>whnf
      have e:zbb key long s1=none:=by
       simp only [zbb,c',show ¬ (65534:Nat)=65535 by decide,if_true,if_false,pnum,if_pos q2,Option.bind_some,if_neg (Nat.not_le.2 q),Option.bind_none]
      rw [e]
      exact ⟨rfl,kE (k1.trans k2 (fun x hx=>.inl hx))⟩
    ·conv=>whnf
     have e:zbb key long s1=none:=by
      simp only [zbb,c',show ¬ (65534:Nat)=65535 by decide,if_true,if_false,pnum,if_neg (Nat.not_le.2 q),Option.bind_none]
     rw [e]
     exact ⟨rfl,kE k1⟩
   ·have c':long≠65534:=by omega
    conv=>whnf
    refine zus (n:=m) (hp:=h1) (by omega) r1 long (by omega) (fun h2 q2 r2 k2=>?_) (fun q=>?_)
    ·have E2:=k2.get E1 (by simpa using hne)
     conv=>whnf
     refine stJ E2 ?_
     refine ⟨[],rfl,?_⟩
     have e:zbb key long s1=some (⟨key,s1.take long,0,0,0,0,Dg.zero⟩,s1.drop long):=by
      simp only [zbb,a',c',if_false,zef,if_pos q2,Option.map_some]
     rw [e]
     refine ⟨rfl,r2.stays (Keep.set (F:=[E]) (by simp)) (by simpa using hne.symm),?_,(kE (k1.trans k2 (fun x hx=>.inl hx))).set' (.inl (by simp))⟩
     rw [List.getElem?_set_self (zac E2)]
     rfl
    ·conv=>whnf
     have e:zbb key long s1=none:=by
      simp only [zbb,a',c',if_false,zef,if_neg (Nat.not_le.2 q),Option.map_none]
     rw [e]
     exact ⟨rfl,kE k1⟩
 conv=>whnf
 refine bre (fun a=>?_) (fun a=>?_)
 ·subst a
  conv=>whnf
  refine zc5 (n:=m) (hp:=hp) (by omega) r 2 (by omega) (fun h2 q2 r2 k2=>?_) (fun q=>?_)
  ·have e:ze5 key 0 s=zbb key (zaf (s.take 2)) (s.drop 2):=by simp only [ze5,if_true,pnum,if_pos q2,Option.bind_some]
   rw [e]
   conv=>whnf
   exact body _ _ h2 _ (Nat.lt_of_lt_of_eq (zb6 2 _ (by rw [List.length_take];omega)) (by decide)) r2 k2 ⟨⟨rfl,rfl,rfl⟩,rfl,rfl⟩
  ·have e:ze5 key 0 s=none:=by simp only [ze5,if_true,pnum,if_neg (Nat.not_le.2 q),Option.bind_none]
   rw [e]
   conv=>whnf
   exact ⟨rfl,Keep.refl _ _⟩
 ·have e:ze5 key lv s=zbb key 65534 s:=by simp only [ze5,a,if_false]
  rw [e]
  conv=>whnf
  exact body 65534 s hp _ (by decide) r (Keep.refl _ _) ⟨⟨rfl,rfl,rfl⟩,rfl,rfl⟩
end
def c231:RC :=
 (.seq (.ops [(oP 4 (.mv (.c .nili)))])
 (.seq (.seq (.ops [(mV 13 1)])
 (.block 0
 (.seq (.seq (.ops [(oJ 15 .eql 13 1),(mV 14 15)])
 (.cond (.t 14)
 .skip
 (.ops [(oJ 16 .eql 13 2),(mV 14 16)])))
 (.cond (.t 14)
 (.cut (.seq (.ops [(mV 17 0),(oP 18 (.callF 229 [(.t 17),(.c (.int .i64 1))])),(mV 19 0),(oP 20 (.callF 229 [(.t 19),(.c (.int .i64 1))])),(oP 21 (.build [(.int .i64 0),(.int .i64 0),(.bool false),(.lst 0 [] true)] [(0,1,(.t 18)),(1,1,(.t 20))])),(oP 5 (.alloc 296 [(.int .i64 0),(.int .i64 0),(.bool false),(.lst 0 [] true)])),(oT 4 5 21)])
 (.seq (.ops [(mV 22 0),(oP 23 (.callF 229 [(.t 22),(.c (.int .i64 1))])),(oJ 24 .eql 23 1),(oC 25 2 5),(oT 1 25 24)])
 (.seq (.ops [(mV 26 0),(oP 27 (.callF 229 [(.t 26),(.c (.int .i64 1))])),(mV 6 27)])
 (.seq (.ops [(mV 28 0),(oP 29 (.callF 229 [(.t 28),(.c (.int .i64 2))])),(mV 7 29)])
 (.seq (.ops [(mV 30 0),(mV 31 6),(oW 32 249 30 31),(mV 8 32)])
 (.seq (.ops [(mV 33 0),(mV 34 7),(oP 35 (.bin .mul (.c (.int .i64 2)) (.t 34))),(oW 36 249 33 35)])
 (.seq (.seq (.ops [(mV 37 0),(mV 38 7),(oC 39 1 5),(oA 40 39),(mV 41 8),(oP 42 (.callF 250 [(.t 37),(.t 38),(.t 40),(.t 41)]))])
 (.block 1
 (.rangeF (.t 42) [43]
 (.ops [(oP 9 (.alloc 147 [(.str []),(.str []),(.int .i64 0),(.int .i64 0),(.int .i64 0),(.int .i64 0),(.int .u8 0),(.int .u8 0),(.int .u8 0),(.int .u8 0),(.int .u8 0),(.int .u8 0),(.int .u8 0),(.int .u8 0),(.int .u8 0),(.int .u8 0),(.int .u8 0),(.int .u8 0),(.int .u8 0),(.int .u8 0),(.int .u8 0),(.int .u8 0)])),(oT 22 9 43)])
 (.block 2
 (.ops [(oC 44 3 5),(oA 45 44),(oB 46 22 9),(oP 47 (.mkLst 22 true 1 [(.str []),(.str []),(.int .i64 0),(.int .i64 0),(.int .i64 0),(.int .i64 0),(.int .u8 0),(.int .u8 0),(.int .u8 0),(.int .u8 0),(.int .u8 0),(.int .u8 0),(.int .u8 0),(.int .u8 0),(.int .u8 0),(.int .u8 0),(.int .u8 0),(.int .u8 0),(.int .u8 0),(.int .u8 0),(.int .u8 0),(.int .u8 0)] [(0,22,(.t 46))])),(oP 48 (.app 147 22 (.t 45) (.t 47))),(oC 49 3 5),(oT 1 49 48)])))))
 (.cut (.seq (.ops [(oB 50 4 5),(oP 51 (.mkIfc 296 (.t 50))),(mV 4 51)])
 .ret))))))))))
 (.seq (.ops [(oJ 53 .eql 13 3),(mV 52 53)])
 (.cond (.t 52)
 (.seq (.ops [(mV 54 0),(oP 55 (.callF 229 [(.t 54),(.c (.int .i64 4))])),(oP 56 (.build [(.int .i64 0),(.str [])] [(0,1,(.t 55))])),(oP 10 (.alloc 292 [(.int .i64 0),(.str [])])),(oT 2 10 56)])
 (.seq (.ops [(mV 57 0),(mV 58 0),(oP 59 (.callF 229 [(.t 58),(.c (.int .i64 2))])),(oW 60 249 57 59),(oC 61 1 10),(oT 1 61 60)])
 (.seq (.ops [(oB 62 2 10),(oP 63 (.mkIfc 292 (.t 62))),(mV 4 63)])
 .ret)))
 .skip))))))
 (.cut (.seq (.ops [(mV 64 0),(oP 65 (.callF 229 [(.t 64),(.c (.int .i64 4))])),(oP 66 (.build [(.int .i64 0),(.lst 0 [] true)] [(0,1,(.t 65))])),(oP 11 (.alloc 294 [(.int .i64 0),(.lst 0 [] true)])),(oT 2 11 66)])
 (.seq (.seq (.ops [(mV 67 0),(oP 68 (.callF 229 [(.t 67),(.c (.int .i64 2))])),(oH 69 0)])
 (.block 3
 (.loop
 (.seq (.ops [(oI 70 .lss 69 68)])
 (.seq (.cond (.t 70)
 .skip
 (.exit 3))
 (.seq (.block 4
 (.seq (.ops [(mV 71 0),(oP 72 (.callF 229 [(.t 71),(.c (.int .i64 6))])),(oP 73 (.build [(.int .i64 0),(.lst 0 [] true)] [(0,1,(.t 72))])),(oP 12 (.alloc 145 [(.int .i64 0),(.lst 0 [] true)])),(oT 2 12 73)])
 (.seq (.seq (.ops [(mV 74 0),(oP 75 (.callF 229 [(.t 74),(.c (.int .i64 2))])),(oH 76 0)])
 (.block 5
 (.loop
 (.seq (.ops [(oI 77 .lss 76 75)])
 (.seq (.cond (.t 77)
 .skip
 (.exit 5))
 (.seq (.block 6
 (.draw [((oC 78 1 12),0),((oA 79 78),1),((mV 80 0),0),((oP 81 (.callF 229 [(.t 80),(.c (.int .i64 4))])),2),((oP 82 (.mkLst 1 false 1 [(.int .i64 0)] [(0,1,(.t 81))])),0),((oP 83 (.app 3 1 (.t 79) (.t 82))),3),((oC 84 1 12),0),((oT 1 84 83),2)]))
 (.ops [(oJ 85 .add 76 1),(mV 76 85)])))))))
 (.cut (.ops [(oC 86 1 11),(oA 87 86),(oB 88 2 12),(oP 89 (.mkLst 2 true 1 [(.int .i64 0),(.lst 0 [] true)] [(0,2,(.t 88))])),(oP 90 (.app 145 2 (.t 87) (.t 89))),(oC 91 1 11),(oT 1 91 90)])))))
 (.cut (.ops [(oJ 92 .add 69 1),(mV 69 92)]))))))))
 (.cut (.seq (.ops [(oB 93 2 11),(oP 94 (.mkIfc 294 (.t 93))),(mV 4 94)])
 .ret)))))))
theorem F231:FI 231 2 95 7 [.tmp 4] c231:=mkF Tryz.f231 Tryz.func231
def GBuf (el:TypeId) (sz:Nat) (hp:zaa) (X:Nat) (L:AV) (rows:List (List AV)) (G:List Nat):Prop :=
 (∀ r∈rows,r.length=sz ∧ r.all AV.scal=true) ∧ ((L=.lst 0 [] true ∧ rows=[] ∧ G=[X]) ∨ (∃ eb ver frz,L=.sl sz eb ver 0 rows.length ∧ hp[eb]?=some (.cells ver (some el) rows.flatten frz) ∧ X≠eb ∧ frz ≤ rows.flatten.length ∧ G=[X,eb]))
theorem zem {sz:Nat}:∀ {rows:List (List AV)},(∀ r∈rows,r.length=sz ∧ r.all AV.scal=true) → rows.flatten.length=rows.length*sz ∧ rows.flatten.all AV.scal=true
 | [],_=>by simp
 | a::r,h=>by
  have h1:=zem fun x hx=>h x (List.mem_cons_of_mem _ hx)
  have h2:=h a (List.mem_cons_self ..)
  simp only [List.flatten_cons,List.length_append,List.length_cons,List.all_append,h1,h2,Bool.and_self,and_true]
  rw [Nat.add_mul];omega
theorem GBuf.mem {el sz:Nat}{hp:zaa}{X:Nat}{L:AV}{rows:List (List AV)}{G:List Nat}(h:GBuf el sz hp X L rows G):X∈G:=by
 rcases h.2 with ⟨_,_,rfl⟩ | ⟨eb,ver,frz,_,h2,_,_,rfl⟩<;>simp
theorem GBuf.lt {el sz:Nat}{hp:zaa}{X:Nat}{L:AV}{rows:List (List AV)}{G:List Nat}(h:GBuf el sz hp X L rows G) (hX:X<hp.length):∀ x∈G,x<hp.length:=by
 intro x hx
 rcases h.2 with ⟨_,_,rfl⟩ | ⟨eb,ver,frz,_,h2,_,_,rfl⟩
 ·simp at hx;omega
 ·simp at hx
  rcases hx with rfl | rfl
  ·exact hX
  ·exact zac h2
theorem GBuf.stays {el sz:Nat}{hp hp':zaa}{X:Nat}{L:AV}{rows:List (List AV)}{G:List Nat}(h:GBuf el sz hp X L rows G) (e:∀ x∈G,x≠X → hp'[x]?=hp[x]?):GBuf el sz hp' X L rows G:=by
 refine ⟨h.1,?_⟩
 rcases h.2 with h | ⟨eb,ver,frz,h1,h2,h3,h4,rfl⟩
 ·exact .inl h
 ·exact .inr ⟨eb,ver,frz,h1,by rw [e eb (by simp) (Ne.symm h3)];exact h2,h3,h4,rfl⟩
theorem zmq {el sz:Nat}{hp:zaa}{X:Nat}{L x:AV}{rows:List (List AV)}{row:List AV}{G:List Nat}(hB:GBuf el sz hp X L rows G) (hX:X<hp.length) (h1:lenA x=some 1) (h2:zax hp sz 1 x=some row) (hr:row.length=sz ∧ row.all AV.scal=true) (hl:rows.length+1 ≤ 1073741824) :
  ∃ v oh,appR hp el sz L x=some (v,oh) ∧ ∃ hp' G',hp'=oh.getD hp ∧ hp'[X]?=hp[X]? ∧ GBuf el sz hp' X v (rows++[row]) G' ∧ Keep hp hp' G ∧ (∀ x∈G',x∈G ∨ hp.length ≤ x) ∧ (∃ xs,v.cells?=some xs ∧ xs=[v]):=by
 have hrows:∀ r∈rows++[row],r.length=sz ∧ r.all AV.scal=true:=by
  intro r hm
  simp at hm
  rcases hm with hm | rfl
  ·exact hB.1 r hm
  ·exact hr
 unfold appR
 rw [h1]
 simp only
 rw [h2]
 simp only [hr.2,Bool.not_true,Bool.false_eq_true,if_false]
 rcases hB.2 with ⟨rfl,rfl,rfl⟩ | ⟨bb,ver,frz,rfl,g1,g2,g3,rfl⟩
 ·simp only
  rw [if_neg (by decide)]
  have h3:zax hp sz ([]:List AV).length (.lst 0 [] true)=some []:=by
   unfold zax
   simp
  rw [h3]
  simp only [List.length_nil,Nat.zero_add]
  rw [if_pos ⟨by decide,rfl⟩]
  refine ⟨_,_,rfl,_,[X,hp.length],rfl,?_,⟨hrows,.inr ⟨hp.length,0,0,rfl,?_,by omega,Nat.zero_le _,rfl⟩⟩,Keep.app _ _ _,?_,_,rfl,rfl⟩
  ·simp only [Option.getD_some];rw [List.getElem?_append_left hX]
  ·simp
  ·intro x hx;simp at hx;rcases hx with rfl | rfl<;>simp
 ·have hf:=zem hB.1
  simp only
  rw [g1]
  simp only
  rw [if_pos ⟨.inl trivial,trivial,trivial,trivial,hf.1.symm,hf.2,hl,g3⟩,if_neg (by decide)]
  refine ⟨_,_,rfl,_,[X,bb],rfl,?_,⟨hrows,.inr ⟨bb,ver+1,frz,by simp,?_,g2,by rw [List.flatten_append,List.length_append];omega,rfl⟩⟩,Keep.set (by simp),fun x hx=>.inl hx,_,rfl,rfl⟩
  ·simp only [Option.getD_some];rw [List.getElem?_set_ne (fun e=>g2 e.symm)]
  ·simp only [Option.getD_some];rw [List.getElem?_set_self (zac g1)];simp
theorem zol (h:zaa) {sz:Nat}{row:List AV}(hr:row.length=sz) (hs:AV.cells? (.agg row)=some row):zax h sz 1 (.lst sz [.agg row] true)=some row:=by
 unfold zax
 simp only
 rw [if_pos ⟨Nat.le_refl _,.inl trivial⟩]
 simp [hs,hr]
theorem zwg (b:Nat):cfg0.inl (Tryz.prog.funcs.size+b)=true:=by
 have h1:Tryz.prog.funcs.size=284:=by kernel_rfl
 have h:∀ f,284 ≤ f → cfg0.inl f=true:=fun f hf=>by
  show (inlL.contains f||decide (284 ≤ f))=true
  simp [hf]
 exact h _ (Nat.le_trans (Nat.le_of_eq h1.symm) (Nat.le_add_right _ _))
structure XS (hp:zaa) (X Bk:Nat) (tree lv:Int) (top:Bool) (lp:AB) (es:List Entry) (G:List Nat):Prop where
 node:∃ L,hp[X]?=some (.cells 0 (some 296) [i64 tree,i64 lv,.bool top,L] 0) ∧ GBuf 147 22 hp X L (es.map Entry.cells) G
 loop:hp[Bk]?=some lp
 out:Bk ∉ G
theorem XS.lt {hp:zaa}{X Bk:Nat}{tree lv:Int}{top:Bool}{lp:AB}{es:List Entry}{G:List Nat}(h:XS hp X Bk tree lv top lp es G):∀ x∈G,x<hp.length:=by
 obtain ⟨L,h1,h2⟩:=h.node
 exact h2.lt (zac h1)
theorem XS.stays {hp hp':zaa}{X Bk:Nat}{tree lv:Int}{top:Bool}{lp:AB}{es:List Entry}{G F:List Nat}(h:XS hp X Bk tree lv top lp es G) (k:Keep hp hp' F) (hG:∀ x∈G,x ∉ F) (hB:Bk ∉ F):XS hp' X Bk tree lv top lp es G:=by
 have hl:=h.lt
 obtain ⟨⟨L,h1,h2⟩,h3,h4⟩:=h
 exact ⟨⟨L,k.get h1 (hG _ h2.mem),h2.stays fun x hx _=>k.2 x (hl x hx) (hG x hx)⟩,k.get h3 hB,h4⟩
section
variable {n:Nat}{hp:zaa}
abbrev rngB:RC × RC:=match c231.rngs with
 | p::_=>p
 | []=>(.skip,.skip)
theorem zyc (hn:1 ≤ n) {X Bk:Nat}{tree lv:Int}{top:Bool}{es:List Entry}{G:List Nat}{tms:Tm}{qs:Array Tmp}{ca cb:Code}{db:Nat}(x:XS hp X Bk tree lv top (.loop false tms qs ca cb db) es G)
  (H:HasL 95 7 [(5,.ptr X 0 0)] tms) (hq:qs.toList=[43]) (hca:resC Tryz.prog cfg0.inl ca=rngB.1.erase) (hcb:resC Tryz.prog cfg0.inl cb=rngB.2.erase) (hl:es.length+1 ≤ 1073741824) (e:Entry) :
  ∃ hp' G',C n (Tryz.prog.funcs.size+Bk) [e.av] hp=some (.ret (.bool true),hp') ∧ XS hp' X Bk tree lv top (.loop false tms qs ca cb db) (es++[e]) G' ∧ Keep hp hp' G ∧ ∀ x∈G',x∈G ∨ hp.length ≤ x:=by
 obtain ⟨m,rfl⟩:=pre1 n
 have hG:=x.lt
 obtain ⟨⟨L,x1,x2⟩,x3,x4⟩:=x
 have hXl:=zac x1
 have hBX:Bk≠X:=by rintro rfl;rw [x1] at x3;cases x3
 have hBl:=zac x3
 -- the memory in a round
 have es1:(hp++[AB.cells 0 (some 147) (keyE []).cells 0]).set hp.length (.cells 0 (some 147) e.cells 0)=hp++[.cells 0 (some 147) e.cells 0]:=by simp
 have key:=yieldI (P:=Tryz.prog) (call:=C m) (inl:=cfg0.inl) (k:=KK) (n:=95) (d:=7) (ra:=rngB.1) (rb:=rngB.2) rfl rfl ca cb hca hcb rfl rfl (by decide) (b:=Bk) (args:=[e.av]) (tms:=tms) (qs:=qs) (db:=db) (h:=hp)
  (R:=fun hp'=>∃ G',XS hp' X Bk tree lv top (.loop false tms qs ca cb db) (es++[e]) G' ∧ Keep hp hp' G ∧ ∀ x∈G',x∈G ∨ hp.length ≤ x) H x3 (by rw [← Array.length_toList,hq];rfl) (by rw [hq];rfl) ?_
 ·obtain ⟨hp',h1,G',h2,h3,h4⟩:=key
  exact ⟨hp',G',by rw [show C (m+1) (Tryz.prog.funcs.size+Bk) [e.av] hp=_ from yieldC (zwg Bk)];exact h1,h2,h3,h4⟩
 rw [hq]
 conv=>whnf
 refine stJ (zag _ _) ?_
 refine ⟨rfl,rfl,?_,?_⟩
 ·show ((hp++[AB.cells 0 (some 147) (keyE []).cells 0]).set hp.length (.cells 0 (some 147) e.cells 0))[Bk]?=_
  rw [es1,List.getElem?_append_left hBl];exact x3
 -- what the round does
 have hB2:Bk<(hp++[AB.cells 0 (some 147) e.cells 0]).length:=by simp;omega
 have x1':((hp++[AB.cells 0 (some 147) e.cells 0]).set Bk (.loop true tms qs ca cb db))[X]?=some (.cells 0 (some 296) [i64 tree,i64 lv,.bool top,L] 0):=by
  rw [List.getElem?_set_ne hBX,List.getElem?_append_left hXl];exact x1
 have xe:((hp++[AB.cells 0 (some 147) e.cells 0]).set Bk (.loop true tms qs ca cb db))[hp.length]?=some (.cells 0 (some 147) e.cells 0):=by
  rw [List.getElem?_set_ne (by omega)];simp
 have xb:((hp++[AB.cells 0 (some 147) e.cells 0]).set Bk (.loop true tms qs ca cb db))[Bk]?=some (.loop true tms qs ca cb db):=by
  rw [List.getElem?_set_self hB2]
 have x2':GBuf 147 22 ((hp++[AB.cells 0 (some 147) e.cells 0]).set Bk (.loop true tms qs ca cb db)) X L (es.map Entry.cells) G:=x2.stays fun y hy _=>by
  rw [List.getElem?_set_ne (by rintro rfl;exact x4 hy),List.getElem?_append_left (hG y hy)]
 obtain ⟨v,oh,ea,hp2,G',rfl,g1,g2,g3,g4,xs,g5,rfl⟩:=zmq (x:=.lst 22 [.agg e.cells] true) x2' (zac x1') rfl (zol _ rfl rfl) ⟨rfl,rfl⟩ (by simpa using hl)
 have f1:=g1.trans x1'
 have fin:∀ (L':LT),(fun ex s2=>ex=Ex.norm ∧ s2.df=[] ∧ s2.h[Bk]?=some (.loop true tms qs ca cb db) ∧ ∃ G',XS (s2.h.set Bk (.loop false tms qs ca cb db)) X Bk tree lv top (.loop false tms qs ca cb db) (es++[e]) G' ∧ Keep hp (s2.h.set Bk (.loop false tms qs ca cb db)) G ∧ ∀ x∈G',x∈G ∨ hp.length ≤ x) Ex.norm
   (⟨L',(oh.getD ((hp++[AB.cells 0 (some 147) e.cells 0]).set Bk (.loop true tms qs ca cb db))).set X (.cells 0 (some 296) (putAt [i64 tree,i64 lv,.bool top,L] 3 [v]) 0),[]⟩ : LS):=by
  intro L'
  have y1:=g3.get xb (fun q=>x4 (by simpa using q))
  have hBG':Bk ∉ G':=fun q=>by
   rcases g4 Bk q with q | q
   ·exact x4 q
   ·simp at q;omega
  have y2:((oh.getD ((hp++[AB.cells 0 (some 147) e.cells 0]).set Bk (.loop true tms qs ca cb db))).set X (.cells 0 (some 296) (putAt [i64 tree,i64 lv,.bool top,L] 3 [v]) 0))[Bk]?=some (.loop true tms qs ca cb db):=by
   rw [List.getElem?_set_ne (Ne.symm hBX)];exact y1
  refine ⟨rfl,rfl,y2,G',⟨⟨v,?_,?_⟩,?_,hBG'⟩,⟨?_,fun y hy hn=>?_⟩,fun y hy=>(g4 y hy).imp id fun q=>by simp at q;omega⟩
  ·rw [List.getElem?_set_ne hBX,List.getElem?_set_self (zac f1)];rfl
  ·rw [List.map_append]
   refine g2.stays fun y hy hyX=>?_
   rw [List.getElem?_set_ne (by rintro rfl;exact hBG' hy),List.getElem?_set_ne (Ne.symm hyX)]
  ·rw [List.getElem?_set_self (zac y2)]
  ·have:=g3.1
   simp at this ⊢
   omega
  ·have hyX:y≠X:=by rintro rfl;exact hn x2.mem
   by_cases hyB:y=Bk
   ·subst hyB
    rw [List.getElem?_set_self (zac y2)];exact x3.symm
   ·rw [List.getElem?_set_ne (Ne.symm hyB),List.getElem?_set_ne (Ne.symm hyX),g3.2 y (by simp;omega) hn,List.getElem?_set_ne (Ne.symm hyB),List.getElem?_append_left hy]
 show Wp _ _ _ _ _ _ _ ⟨_,((hp++[AB.cells 0 (some 147) (keyE []).cells 0]).set hp.length (.cells 0 (some 147) e.cells 0)).set Bk (.loop true tms qs ca cb db),[]⟩ _
 rw [es1]
 conv=>whnf
 refine ldI x1' ?_
 conv=>whnf
 refine ldI xe ?_
 conv=>whnf
 refine ⟨rfl,?_⟩
 refine ⟨_,ea,?_⟩
 cases oh with
 | none =>
  conv=>whnf
  refine stI x1' g5 (by rfl) (by rfl) (by rfl) ?_
  exact fin _
 | some h2 =>
  conv=>whnf
  refine stI f1 g5 (by rfl) (by rfl) (by rfl) ?_
  exact fin _
end
end Go.Proofs
