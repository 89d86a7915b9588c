/- Texts put together: AbsA0, AbsTr, AbsA, AbsB, AbsC, AbsD, AbsE, AbsF. -/
import Derived.Orders
import Derived.LoopN
import Derived.Lib.FrozenHead
import Derived.RangeFuncRecord
import Derived.Laws.Build
import Derived.Laws.Concat
import Derived.Laws.Strings
import Derived.Lib.Strings
set_option linter.unusedVariables false
set_option linter.unusedSimpArgs false
namespace Go.Abs
inductive AV where
 | undef
 | bool (b:Bool)
 | int (k:IntKind) (n:Int)
 | flt (k:FloatKind) (bits:Nat)
 | str (s:List UInt8)
 | nilp
 | ptr (b ver o:Nat)
 | pin (cs:List AV) (o:Nat)
 | lst (sz:Nat) (xs:List AV) (c0:Bool)
 | sl (sz b ver o len:Nat)
 | mapn
 | map (b:Nat)
 | fn (f:Fn) (x y:List AV)
 | nilf
 | ifc (t:TypeId) (x:AV)
 | nili
 | agg (cs:List AV)
 | tup (cs:List AV)
 deriving Inhabited
inductive Tr where
 | leaf
 | node (v:AV) (l r:Tr)
 deriving Inhabited
--FAST
noncomputable def Tr.get (t:Tr):Nat → AV :=
 Tr.rec (motive:=fun _=>Nat → AV) (fun _=>.undef) (fun v _ _ gl gr n=>Nat.rec (motive:=fun _=>AV) v (fun n _=>cond (Nat.beq (Nat.mod n 2) 0) (gl (Nat.div n 2)) (gr (Nat.div n 2))) n) t
noncomputable def Tr.set (t:Tr):Nat → AV → Tr :=
 Tr.rec (motive:=fun _=>Nat → AV → Tr) (fun _ _=>.leaf) (fun v l r sl sr n w=>Nat.rec (motive:=fun _=>Tr) (.node w l r) (fun n _=>cond (Nat.beq (Nat.mod n 2) 0) (.node v (sl (Nat.div n 2) w) r) (.node v l (sr (Nat.div n 2) w))) n) t
--SLOW
--def Tr.get:Tr → Nat → AV
--  | .leaf,_=>.undef
--  | .node v l r,n=>match n with
--    | 0=>v
--    | n+1=>cond (Nat.beq (Nat.mod n 2) 0) (l.get (Nat.div n 2)) (r.get (Nat.div n 2))
--def Tr.set:Tr → Nat → AV → Tr
--  | .leaf,_,_=>.leaf
--  | .node v l r,n,w=>match n with
--    | 0=>.node w l r
--    | n+1=>cond (Nat.beq (Nat.mod n 2) 0) (.node v (l.set (Nat.div n 2) w) r) (.node v l (r.set (Nat.div n 2) w))
--END
theorem Tr.get_succ (v:AV) (l r:Tr) (n:Nat):(Tr.node v l r).get (n+1)=cond (Nat.beq (Nat.mod n 2) 0) (l.get (Nat.div n 2)) (r.get (Nat.div n 2)):=rfl
theorem Tr.set_zero (v w:AV) (l r:Tr):(Tr.node v l r).set 0 w=.node w l r:=rfl
theorem Tr.set_succ (v w:AV) (l r:Tr) (n:Nat):(Tr.node v l r).set (n+1) w=cond (Nat.beq (Nat.mod n 2) 0) (.node v (l.set (Nat.div n 2) w) r) (.node v l (r.set (Nat.div n 2) w)):=rfl
theorem zim {n m:Nat}(h:Nat.beq (Nat.mod n 2) 0=Nat.beq (Nat.mod m 2) 0) (hd:Nat.div n 2=Nat.div m 2):n=m:=by
 have h1:n % 2=m % 2:=by
  change (n % 2).beq 0=(m % 2).beq 0 at h
  have a:=Nat.mod_two_eq_zero_or_one n
  have b:=Nat.mod_two_eq_zero_or_one m
  rcases a with a | a<;>rcases b with b | b<;>rw [a,b] at h ⊢<;>first | rfl | (cases h)
 have h2:n / 2=m / 2:=hd
 omega
theorem Tr.get_set_ne:∀ (t:Tr) {i d:Nat}(v:AV),i≠d → (t.set d v).get i=t.get i
 | .leaf,_,_,_,_=>rfl
 | .node x l r,0,0,_,h=>(h rfl).elim
 | .node x l r,i+1,0,_,_=>by rw [Tr.set_zero,Tr.get_succ,Tr.get_succ]
 | .node x l r,0,d+1,_,_=>by rw [Tr.set_succ];cases Nat.beq (Nat.mod d 2) 0<;>rfl
 | .node x l r,i+1,d+1,v,h=>by
  rw [Tr.set_succ]
  cases hd:Nat.beq (Nat.mod d 2) 0<;>simp only [cond]<;>rw [Tr.get_succ,Tr.get_succ]<;>cases hi:Nat.beq (Nat.mod i 2) 0<;>simp only [cond]
  ·exact Tr.get_set_ne r v fun e=>h (by rw [zim (hi.trans hd.symm) e])
  ·exact Tr.get_set_ne l v fun e=>h (by rw [zim (hi.trans hd.symm) e])
theorem Tr.get_set_eq:∀ (t:Tr) (d:Nat) (v:AV),(t.set d v).get d=v ∨ (t.set d v).get d=.undef
 | .leaf,_,_=>.inr rfl
 | .node x l r,0,_=>.inl rfl
 | .node x l r,d+1,v=>by
  rw [Tr.set_succ]
  cases hd:Nat.beq (Nat.mod d 2) 0<;>simp only [cond]<;>rw [Tr.get_succ,hd]<;>simp only [cond]
  ·exact Tr.get_set_eq r _ v
  ·exact Tr.get_set_eq l _ v
theorem Tr.set_comm:∀ (t:Tr) {d e:Nat}(v u:AV),d≠e → (t.set d v).set e u=(t.set e u).set d v
 | .leaf,_,_,_,_,_=>rfl
 | .node x l r,0,0,_,_,h=>(h rfl).elim
 | .node x l r,d+1,0,v,u,_=>by
  rw [Tr.set_succ,Tr.set_zero]
  cases hd:Nat.beq (Nat.mod d 2) 0<;>simp only [cond]<;>rw [Tr.set_zero,Tr.set_succ,hd]<;>rfl
 | .node x l r,0,e+1,v,u,_=>by
  rw [Tr.set_succ,Tr.set_zero]
  cases hd:Nat.beq (Nat.mod e 2) 0<;>rw [Tr.set_succ,hd]<;>simp only [cond]<;>rw [Tr.set_zero]
 | .node x l r,d+1,e+1,v,u,h=>by
  rw [Tr.set_succ,Tr.set_succ]
  cases hd:Nat.beq (Nat.mod d 2) 0<;>cases he:Nat.beq (Nat.mod e 2) 0<;>simp only [cond]<;>rw [Tr.set_succ,Tr.set_succ,hd,he]<;>simp only [cond]
  ·rw [Tr.set_comm r v u fun q=>h (by rw [zim (hd.trans he.symm) q])]
  ·rw [Tr.set_comm l v u fun q=>h (by rw [zim (hd.trans he.symm) q])]
def Tr.full:Nat → Tr
 | 0=>.leaf
 | n+1=>.node .undef (Tr.full n) (Tr.full n)
theorem Tr.get_full:∀ (n i:Nat),(Tr.full n).get i=.undef
 | 0,_=>rfl
 | n+1,0=>rfl
 | n+1,i+1=>by
  unfold Tr.full
  rw [Tr.get_succ]
  cases Nat.beq (Nat.mod i 2) 0<;>simp only [cond]<;>exact Tr.get_full n _
structure Tm where
 n:Nat
 t:Tr
 deriving Inhabited
--FAST
noncomputable def Tm.get (x:Tm) (i:Nat):AV:=x.t.get i
noncomputable def Tm.set (x:Tm) (d:Nat) (v:AV):Tm:=cond (Nat.blt d x.n) ⟨x.n,x.t.set d v⟩ x
noncomputable def Tm.setL:List AV → Nat → Tm → Tm
 | [],_,x=>x
 | v::r,i,x=>Tm.setL r (i+1) (x.set i v)
--SLOW
--def Tm.get (x:Tm) (i:Nat):AV:=x.t.get i
--def Tm.set (x:Tm) (d:Nat) (v:AV):Tm:=cond (Nat.blt d x.n) ⟨x.n,x.t.set d v⟩ x
--def Tm.setL:List AV → Nat → Tm → Tm
--  | [],_,x=>x
--  | v::r,i,x=>Tm.setL r (i+1) (x.set i v)
--END
def Tm.new (n:Nat):Tm:=⟨n,Tr.full (Nat.log2 (n+1)+1)⟩
theorem Tm.get_new (n i:Nat):(Tm.new n).get i=.undef:=Tr.get_full _ _
theorem Tm.set_n (x:Tm) (d:Nat) (v:AV):(x.set d v).n=x.n:=by
 unfold Tm.set;cases Nat.blt d x.n<;>rfl
theorem Tm.get_set_ne (x:Tm) {i d:Nat}(v:AV) (h:i≠d):(x.set d v).get i=x.get i:=by
 unfold Tm.set Tm.get;cases Nat.blt d x.n
 ·rfl
 ·exact Tr.get_set_ne _ v h
theorem Tm.get_set_eq (x:Tm) {d:Nat}(v:AV) (h:d<x.n):(x.set d v).get d=v ∨ (x.set d v).get d=.undef:=by
 unfold Tm.set Tm.get
 have:Nat.blt d x.n=true:=Nat.blt_eq ▸ h
 rw [this]
 exact Tr.get_set_eq _ _ v
theorem Tm.set_out (x:Tm) {d:Nat}(v:AV) (h:¬ d<x.n):x.set d v=x:=by
 unfold Tm.set
 have:Nat.blt d x.n=false:=by
  cases e:Nat.blt d x.n
  ·rfl
  ·exact (h ((Nat.blt_eq ▸ e:d<x.n))).elim
 rw [this];rfl
theorem Tm.set_comm (x:Tm) {d e:Nat}(v u:AV) (h:d≠e):(x.set d v).set e u=(x.set e u).set d v:=by
 unfold Tm.set
 cases hd:Nat.blt d x.n<;>cases he:Nat.blt e x.n<;>simp only [cond,hd,he]
 rw [Tr.set_comm _ v u h]
inductive AB where
 | dead
 | cells (ver:Nat) (el:Option TypeId) (cs:List AV) (frz:Nat)
 | map (es:List (AV × AV))
 | dfd
 | loop (busy:Bool) (tms:Tm) (ps:Array Tmp) (asg body:Code) (db:Nat)
 deriving Inhabited
abbrev zaa:=List AB
def AV.scal:AV → Bool
 | .undef | .agg _ | .tup _=>false
 | _=>true
def ofV1:Value → Option AV
 | .bool b=>some (.bool b)
 | .int k n=>some (.int k n)
 | .float k n=>some (.flt k n)
 | .string s=>some (.str s.data.toList)
 | .pointer none=>some .nilp
 | .slice none 0 0=>some (.lst 0 [] true)
 | .map none=>some .mapn
 | .nilFunc=>some .nilf
 | .nilIface=>some .nili
 | _=>none
def ofVs:List Value → Option (List AV)
 | []=>some []
 | v::vs=>match ofV1 v,ofVs vs with
  | some x,some xs=>some (x::xs)
  | _,_=>none
def ofV:Value → Option AV
 | .agg cs=>(ofVs cs.toList).map .agg
 | v=>ofV1 v
structure TI where
 desc:TypeDesc
 size:Nat
 bytes:Nat
 zero:List AV
def ti (P:Program) (t:TypeId):Option TI :=
 match P.info? t,P.underlying t with
 | some i,some d=>match i.zero with
  | some z=>match ofVs z.cells.toList with
   | some zs=>some ⟨d,i.size,i.bytes,zs⟩
   | none=>none
  | none=>none
 | _,_=>none
def za9:TypeDesc → Bool
 | .struct _ | .array _ _=>true
 | _=>false
def AV.cells?:AV → Option (List AV)
 | .agg cs=>if cs.all AV.scal then some cs else none
 | .undef | .tup _=>none
 | v=>some [v]
def zdw (d:TI) (cs:List AV) (off:Nat):Option AV :=
 if za9 d.desc then (if off+d.size ≤ cs.length then some (.agg ((cs.drop off).take d.size)) else none)
 else cs[off]?
def putAt (cs:List AV) (o:Nat) (xs:List AV):List AV:=cs.take o++xs++cs.drop (o+xs.length)
def zbv (P:Program) (h:zaa) (t:TypeId):AV → Option AV
 | .ptr b ver o=>match h[b]?,ti P t with
  | some (.cells ver' _ cs _),some d=>if ver'=ver then zdw d cs o else none
  | _,_=>none
 | .pin cs o=>match ti P t with
  | some d=>zdw d cs o
  | none=>none
 | _=>none
def znh (P:Program) (h:zaa) (t:TypeId) (p v:AV):Option zaa :=
 match p,v.cells?,ti P t with
 | .ptr b ver o,some xs,some d=>match h[b]? with
  | some (.cells ver' el cs frz) =>
   if ver'=ver ∧ xs.length=d.size ∧ o+xs.length ≤ cs.length ∧ frz ≤ o then some (h.set b (.cells ver el (putAt cs o xs) frz)) else none
  | _=>none
 | _,_,_=>none
def zjt (place:Nat → Option (Nat × Nat)) (cs:List AV):List (Nat × AV) → Option (List AV)
 | []=>some cs
 | (i,v)::rest=>match place i,v.cells? with
  | some (off,size),some xs=>if xs.length=size ∧ off+xs.length ≤ cs.length then zjt place (putAt cs off xs) rest else none
  | _,_=>none
def zj0 (sz:Nat):Nat → List AV → List (List AV)
 | 0,_=>[]
 | n+1,cs=>cs.take sz::zj0 sz n (cs.drop sz)
def zf9 (d:TI) (n:Nat) (cs:List AV):List AV :=
 if za9 d.desc then (zj0 d.size n cs).map .agg else cs
def binA (op:BinOp):AV → AV → Option AV
 | .int k a,.int k' b =>
  match op with
  | .shl=>if b<0 then none else some (.int k (k.wrap (a*2 ^ (min b.toNat k.bits))))
  | .shr=>if b<0 then none else some (.int k (a.fdiv (2 ^ (min b.toNat k.bits))))
  | _=>if k≠k' then none else
   match op with
   | .add=>some (.int k (k.wrap (a+b)))
   | .sub=>some (.int k (k.wrap (a-b)))
   | .mul=>some (.int k (k.wrap (a*b)))
   | .quo=>if b=0 then none else some (.int k (k.wrap (a.tdiv b)))
   | .rem=>if b=0 then none else some (.int k (a.tmod b))
   | .and=>some (.int k (k.wrap (BitVec.ofInt k.bits a &&& BitVec.ofInt k.bits b).toNat))
   | .or=>some (.int k (k.wrap (BitVec.ofInt k.bits a ||| BitVec.ofInt k.bits b).toNat))
   | .xor=>some (.int k (k.wrap (BitVec.ofInt k.bits a ^^^ BitVec.ofInt k.bits b).toNat))
   | .andNot=>some (.int k (k.wrap (BitVec.ofInt k.bits a &&& ~~~BitVec.ofInt k.bits b).toNat))
   | .eql=>some (.bool (a==b))
   | .neq=>some (.bool (a != b))
   | .lss=>some (.bool (decide (a<b)))
   | .leq=>some (.bool (decide (a ≤ b)))
   | .gtr=>some (.bool (decide (b<a)))
   | .geq=>some (.bool (decide (b ≤ a)))
   | _=>none
 | .str x,.str y =>
  match op with
  | .add=>if x.length+y.length ≤ 4611686018427387904 then some (.str (x++y)) else none
  | .eql=>some (.bool (x==y))
  | .neq=>some (.bool (!(x==y)))
  | .lss=>some (.bool (Op.bytesLess x y))
  | .leq=>some (.bool (Op.bytesLess x y||x==y))
  | .gtr=>some (.bool (!(Op.bytesLess x y||x==y)))
  | .geq=>some (.bool (!Op.bytesLess x y))
  | _=>none
 | _,_=>none
def unA (op:UnOp):AV → Option AV
 | .bool b=>match op with
  | .not=>some (.bool (!b))
  | _=>none
 | .int k n=>match op with
  | .neg=>some (.int k (k.wrap (0-n)))
  | .xor=>some (.int k (k.wrap (BitVec.ofInt k.bits (if k.signed then -1 else k.max) ^^^ BitVec.ofInt k.bits n).toNat))
  | _=>none
 | _=>none
def zcz (f:Nat → AV → AV → Option Bool):List (Nat × AV × AV) → Option Bool
 | []=>some true
 | (t,x,y)::r=>match f t x y with
  | some true=>zcz f r
  | some false=>some false
  | none=>none
def zjc (P:Program) (xs ys:List AV):List Field → Option (List (Nat × AV × AV))
 | []=>some []
 | f::fs=>if f.name = "_" then none else match ti P f.type,zjc P xs ys fs with
  | some d,some r=>match zdw d xs f.offset,zdw d ys f.offset with
   | some x,some y=>some ((f.type,x,y)::r)
   | _,_=>none
  | _,_=>none
def zeh (d:TI) (e:TypeId) (xs ys:List AV):List Nat → Option (List (Nat × AV × AV))
 | []=>some []
 | i::is=>match zdw d xs (i*d.size),zdw d ys (i*d.size),zeh d e xs ys is with
  | some x,some y,some r=>some ((e,x,y)::r)
  | _,_,_=>none
def zipE (e:TypeId):List AV → List AV → List (Nat × AV × AV)
 | x::xs,y::ys=>(e,x,y)::zipE e xs ys
 | _,_=>[]
def zn9 (d:TI) (e:TypeId) (xs ys:List AV) (k:Nat):Option (List (Nat × AV × AV)) :=
 if za9 d.desc=false ∧ d.size=1 ∧ xs.length=k ∧ ys.length=k then some (zipE e xs ys) else zeh d e xs ys (List.range k)
def eqA (P:Program):Nat → TypeId → AV → AV → Option Bool
 | 0,_,_,_=>none
 | n+1,t,x,y=>match P.underlying t with
  | none=>none
  | some d=>match d,x,y with
   | .bool,.bool a,.bool b=>some (a==b)
   | .int _,.int k a,.int k' b=>if k=k' then some (a==b) else none
   | .string,.str a,.str b=>some (a==b)
   | .pointer _,.nilp,.nilp=>some true
   | .pointer _,.nilp,.ptr _ _ _=>some false
   | .pointer _,.ptr _ _ _,.nilp=>some false
   | .pointer e,.ptr b v o,.ptr b' v' o'=>if b=b' ∧ v=v' ∧ o=o' ∧ (ti P e).isSome then some true else none
   | .interface _,.nili,.nili=>some true
   | .interface _,.nili,.ifc _ _=>some false
   | .interface _,.ifc _ _,.nili=>some false
   | .slice _,.lst _ (_::_) _,.lst 0 [] true=>some false
   | .slice _,.lst 0 [] true,.lst 0 [] true=>some true
   | .slice _,.sl _ _ _ _ _,.lst 0 [] true=>some false
   | .struct fs,.agg xs,.agg ys=>if P.stoodInHeld t then none else match zjc P xs ys fs.toList with
    | some l=>zcz (eqA P n) l
    | none=>none
   | .array k e,.agg xs,.agg ys=>match ti P e with
    | some d=>match zn9 d e xs ys k with
     | some l=>zcz (eqA P n) l
     | none=>none
    | none=>none
   | _,_,_=>none
def zfx:Operand → Bool
 | .const _=>true
 | _=>false
def zd4 (P:Program) (t:TypeId) (x y:Operand):AV → AV → Bool
 | .nili,.nili=>zfx x||zfx y
 | .agg _,.agg _=>!P.eqGuardType P.depth t
 | .undef,_=>false
 | _,.undef=>false
 | _,_=>true
inductive Cls where
 | pure | rd | grow | mod
 deriving DecidableEq
inductive R where
 | val (v:AV)
 | valh (v:AV) (h:zaa)
 | call (f:FuncId) (args:List AV)
 | pan (v:AV)
def zbm (sz:Nat) (x:AV) (low high mx:Option Int):Option AV :=
 let l:=low.getD 0
 match x with
 | .str s=>let hi:=high.getD s.length
  if mx.isNone ∧ 0 ≤ l ∧ l ≤ hi ∧ hi ≤ s.length then some (.str ((s.take hi.toNat).drop l.toNat)) else none
 | .lst sz' xs c0 =>
  let hi:=high.getD xs.length
  match mx with
  | some m=>if high.isSome ∧ 0 ≤ l ∧ l ≤ hi ∧ hi ≤ m ∧ m ≤ xs.length ∧ (sz'=sz ∨ xs.length=0) then some (.lst sz ((xs.take hi.toNat).drop l.toNat) (sz != 0&&m==hi)) else none
  | none=>if 0 ≤ l ∧ l ≤ hi ∧ hi ≤ xs.length ∧ (sz'=sz ∨ xs.length=0) then some (.lst sz ((xs.take hi.toNat).drop l.toNat) (sz != 0&&(c0&&hi==xs.length))) else none
 | .sl sz' b ver o len =>
  let hi:=high.getD len
  match mx with
  | some m=>if high.isSome ∧ 0 ≤ l ∧ l ≤ hi ∧ hi ≤ m ∧ m ≤ len ∧ sz'=sz then
    (if m=l then some (.lst sz [] (sz != 0)) else some (.sl sz b ver (o+l.toNat*sz) (hi-l).toNat)) else none
  | none=>if 0 ≤ l ∧ l ≤ hi ∧ hi ≤ len ∧ sz'=sz then
    (if l=len then some (.lst sz [] false) else some (.sl sz b ver (o+l.toNat*sz) (hi-l).toNat)) else none
 | _=>none
def zax (h:zaa) (sz n:Nat):AV → Option (List AV)
 | .str s=>if sz=1 then some ((s.take n).map fun b=>.int .u8 b.toNat) else none
 | .lst sz' xs _=>if n ≤ xs.length ∧ (sz'=sz ∨ n=0) then
   (let l := (xs.take n).map AV.cells?
    if l.all (fun o=>match o with | some c=>c.length==sz | none=>false) then some (l.flatMap fun o=>o.getD []) else none) else none
 | .sl sz' b ver o len=>if n ≤ len ∧ sz'=sz then match h[b]? with
   | some (.cells ver' _ cs _)=>if ver'=ver ∧ o+n*sz ≤ cs.length then some ((cs.drop o).take (n*sz)) else none
   | _=>none else none
 | _=>none
def lenA:AV → Option Nat
 | .str s=>some s.length
 | .lst _ xs _=>some xs.length
 | .sl _ _ _ _ len=>some len
 | _=>none
def ziz:AV → Option Nat
 | .lst _ xs _=>some xs.length
 | .sl _ _ _ _ len=>some len
 | _=>none
def zkb (P:Program) (h:zaa) (elem:TypeId) (s x:AV):Option (AV × Option zaa) :=
 match ti P elem,lenA x with
 | some d,some n =>
  if d.bytes > 65536 ∨ d.size=0 ∨ d.zero.length≠d.size then none else
  match zax h d.size n x with
  | none=>none
  | some ys =>
   if !ys.all AV.scal then none else
   match s with
   | .lst sz xs true=>if n=0 then some (.lst sz xs true,none) else match zax h d.size xs.length (.lst sz xs true) with
    | some old=>if xs.length+n ≤ 1073741824 ∧ old.all AV.scal then some (.sl d.size h.length 0 0 (xs.length+n),some (h++[.cells 0 (some elem) (old++ys) 0])) else none
    | none=>none
   | .sl sz b ver o len=>match h[b]? with
    | some (.cells ver' el cs frz) =>
     if (el=some elem ∨ el=none) ∧ sz=d.size ∧ ver'=ver ∧ o=0 ∧ len*sz=cs.length ∧ cs.all AV.scal ∧ len+n ≤ 1073741824 ∧ frz ≤ cs.length then
      (if n=0 then some (s,none) else some (.sl sz b (ver+1) 0 (len+n),some (h.set b (.cells (ver+1) el (cs++ys) frz))))
     else none
    | _=>none
   | _=>none
 | _,_=>none
def zxe (P:Program) (h:zaa) (elem:TypeId) (s x:AV):Option (AV × Option zaa) :=
 match ti P elem,ziz s,lenA x with
 | some d,some a,some b =>
  let n:=min b a
  match zax h d.size n x with
  | none=>none
  | some ys =>
   if n=0 then some (.int .i64 0,none) else
   match s with
   | .sl sz b ver o _=>match h[b]? with
    | some (.cells ver' el cs frz)=>if sz=d.size ∧ ver'=ver ∧ frz ≤ o ∧ o+ys.length ≤ cs.length ∧ ys.all AV.scal then
      some (.int .i64 n,some (h.set b (.cells ver el (putAt cs o ys) frz))) else none
    | _=>none
   | _=>none
 | _,_,_=>none
def zbe:List AV → Option (List UInt8)
 | []=>some []
 | .int .u8 n::r=>(zbe r).map (UInt8.ofNat n.toNat::·)
 | _=>none
def zkq (P:Program) (h:zaa) (src dst:TypeId) (x:AV):Option (AV × Option zaa) :=
 match P.underlying src,P.underlying dst with
 | some s,some d=>match s,d,x with
  | _,.int k,.int _ n=>some (.int k (k.wrap n),none)
  | _,.string,.str l=>some (.str l,none)
  | _,.slice e,.str l=>match P.underlying e with
   | some (.int .u8)=>some (.sl 1 h.length 0 0 l.length,some (h++[.cells 0 none (l.map fun b=>.int .u8 b.toNat) 0]))
   | _=>none
  | .slice e,.string,x=>match P.underlying e with
   | some (.int .u8)=>match lenA x with
    | some n=>match x with
     | .str _=>none
     | x=>match zax h 1 n x with
      | some cs=>(zbe cs).map fun l=>(.str l,none)
      | none=>none
    | none=>none
   | _=>none
  | _,_,_=>none
 | _,_=>none
def zhs:Fn → Bool
 | .yield _=>true
 | _=>false
def fnOk (P:Program) (f:FuncId):Bool :=
 match P.funcs[f]? with
 | some fn=>!(fn.name == "runtime.NumGoroutine")&&fn.body.isSome
 | none=>false
def zb9 (ρ:Operand → Option AV):List Operand → Option (List AV)
 | []=>some []
 | x::xs=>match ρ x,zb9 ρ xs with
  | some v,some vs=>some (v::vs)
  | _,_=>none
def ze8 (ρ:Operand → Option AV):List (Nat × Operand) → Option (List (Nat × AV))
 | []=>some []
 | (i,x)::xs=>match ρ x,ze8 ρ xs with
  | some v,some vs=>some ((i,v)::vs)
  | _,_=>none
def optM (ρ:Operand → Option AV):Option Operand → Option (Option Int)
 | none=>some none
 | some x=>match ρ x with
  | some (.int _ n)=>some (some n)
  | _=>none
def rep (n:Nat) (zs:List AV):List AV:=match n with
 | 0=>[]
 | n+1=>zs++rep n zs
def zcl (P:Program):List Field → Option (List (Nat × Nat))
 | []=>some []
 | f::fs=>match ti P f.type,zcl P fs with
  | some d,some r=>some ((f.offset,d.size)::r)
  | _,_=>none
def ofRes (r:Option (AV × Option zaa)):Option R :=
 match r with
 | some (v,none)=>some (.val v)
 | some (v,some h)=>some (.valh v h)
 | none=>none
def zav (P:Program) (h:zaa) (b:Builtin) (ts:List TypeId) (args:List AV):Option R :=
 match b,ts,args with
 | .len,[t],[x]=>match P.underlying t with
  | some (.string)=>match x with | .str s=>some (.val (.int .i64 s.length)) | _=>none
  | some (.array n _)=>some (.val (.int .i64 n))
  | some (.slice _)=>match x with
   | .lst _ xs _=>some (.val (.int .i64 xs.length))
   | .sl _ _ _ _ len=>some (.val (.int .i64 len))
   | _=>none
  | _=>none
 | .append,[t,_],[s,x]=>match P.underlying t,P.underlying (ts.getD 1 0) with
  | some (.slice e),some (.int _)=>none
  | some (.slice e),some _=>ofRes (zkb P h e s x)
  | _,_=>none
 | .copy,(t::_),[s,x]=>match P.underlying t with
  | some (.slice e)=>ofRes (zxe P h e s x)
  | _=>none
 | _,_,_=>none
def zhd (P:Program) (h:zaa) (src dst:TypeId) (x:AV):Option AV :=
 match P.underlying src,P.underlying dst with
 | some (.pointer t),some .unsafePointer=>match x with
  | .nilp=>some .nilp
  | .ptr b ver o=>match h[b]?,ti P t with
   | some (.cells ver' _ cs _),some d=>if ver'=ver ∧ d.size≠0 ∧ o<cs.length then some (.ptr b ver o) else none
   | _,_=>none
  | _=>none
 | some .unsafePointer,some (.pointer u)=>match x with
  | .nilp=>some .nilp
  | .ptr b ver o=>match h[b]?,ti P u with
   | some (.cells ver' (some el) cs _),some _=>if ver'=ver ∧ liesAt P P.depth el (cs.length / P.cellsOf el) o u 1=true then some (.ptr b ver o) else none
   | _,_=>none
  | _=>none
 | _,_=>none
def AV.byteB:AV → Bool
 | .int .u8 n=>decide (0 ≤ n)&&decide (n<256)
 | _=>false
def zjp (f:Int → Int → Int):Int → List AV → Option Int
 | x,[]=>some x
 | x,.int _ y::r=>zjp f (f x y) r
 | _,_=>none
def zdt (P:Program) (h:zaa) (b:Builtin) (ts:List TypeId) (args:List AV):Option R :=
 match b with
 | .len=>match ts,args with
  | [t],[.map b]=>match P.underlying t,h[b]? with
   | some (.map _ _),some (.map es)=>some (.val (.int .i64 es.length))
   | _,_=>none
  | _,_=>none
 | .min=>match args with
  | .int k a::r=>(zjp (fun x y=>if y<x then y else x) a r).map fun n=>.val (.int k n)
  | _=>none
 | .max=>match args with
  | .int k a::r=>(zjp (fun x y=>if y > x then y else x) a r).map fun n=>.val (.int k n)
  | _=>none
 | .cap=>match ts,args with
  | [t],[.lst _ xs true]=>match P.underlying t with
   | some (.slice _)=>some (.val (.int .i64 xs.length))
   | _=>none
  | _,_=>none
 | .unsafeSliceData=>match args with
  | [.lst 0 [] true]=>some (.val .nilp)
  | [.sl _ b ver o len]=>if len≠0 then some (.val (.ptr b ver o)) else none
  | _=>none
 | .unsafeString=>match ts,args with
  | [pt,_],[p,.int .i64 n]=>if n=0 then (match p with | .nilp=>some (.val (.str [])) | .ptr _ _ _=>some (.val (.str [])) | _=>none) else
   match p,P.underlying pt with
   | .ptr b ver 0,some (.pointer e)=>match h[b]?,ti P e with
    | some (.cells ver' (some el) cs frz),some d=>if ver'=ver ∧ el=e ∧ d.size=1 ∧ 0<n ∧ n.toNat ≤ cs.length ∧ cs.length ≤ 1073741824 ∧ (cs.take n.toNat).all AV.byteB=true then
      (zbe (cs.take n.toNat)).map fun l=>.valh (.str l) (h.set b (.cells ver (some el) cs (max frz n.toNat))) else none
    | _,_=>none
   | _,_=>none
  | _,_=>none
 | _=>none
def extA (P:Program) (h:zaa) (f:FuncId) (args:List AV):Option R :=
 match P.funcs[f]? with
 | none=>none
 | some fn=>if fn.body.isNone ∧ fn.origin = "" then
   if fn.name = "internal/abi.NoEscape" then match args with
    | [x]=>some (.val x)
    | _=>none
   else if fn.name = "internal/bytealg.MakeNoZero" then match fn.resultTypes.toList,args with
    | [t],[.int .i64 n]=>match P.underlying t with
     | some (.slice e)=>if 0 ≤ n ∧ n ≤ 1073741824 then some (.valh (.sl 1 h.length 0 0 n.toNat) (h++[.cells 0 (some e) [] 0])) else none
     | _=>none
    | _,_=>none
   else none
  else none
def zs7 (P:Program) (t:TypeId) (name:String):Option FuncId :=
 match P.info? t with
 | none=>none
 | some i=>match i.methods.find? (·.name==name),P.underlying t with
  | some m,some d=>match m.func with
   | some (f,pr)=>if m.path.isEmpty&&(match d with | .pointer _=>pr | _=>!pr) then some f else none
   | none=>none
  | _,_=>none
def zj9 (P:Program) (x:AV) (asserted:TypeId) (commaOk:Bool):Option AV :=
 let holds (v:AV):Option AV:=some (if commaOk then .tup [v,.bool true] else v)
 let fails:Option AV:=if commaOk ∧ (ti P asserted).isSome then some (.tup [.undef,.bool false]) else none
 match P.underlying asserted with
 | some (.interface want)=>match x with
  | .nili=>fails
  | .ifc t v=>match P.info? t with
   | some i=>match Instr.missingMethod want i.methods with
    | none=>holds (.ifc t v)
    | some _=>fails
   | none=>none
  | _=>none
 | some _=>match x with
  | .nili=>fails
  | .ifc t v=>if t=asserted then holds v else fails
  | _=>none
 | none=>none
def zd3 (d:TypeDesc):AV → Bool
 | .int k _=>match d with
  | .int k'=>decide (k=k')
  | _=>false
 | .str _=>match d with
  | .string=>true
  | _=>false
 | _=>false
def zv9:AV → AV → Bool
 | .int _ a,.int _ b=>decide (a=b)
 | .str s,.str t=>decide (s=t)
 | _,_=>false
def zn4 (k:AV):List (AV × AV) → Nat → Option (Nat × AV)
 | [],_=>none
 | (k',v)::r,i=>if zv9 k k' then some (i,v) else zn4 k r (i+1)
def z2u (h:zaa):AV → Option (List (AV × AV))
 | .mapn=>some []
 | .map b=>match h[b]? with
  | some (.map es)=>some es
  | _=>none
 | _=>none
def zeroV (P:Program) (t:TypeId):Option AV:=match P.info? t with
 | some i=>match i.zero with
  | some z=>ofV z
  | none=>none
 | none=>none
def zzp (P:Program) (h:zaa) (t:TypeId) (a k:AV) (ok:Bool):Option AV:=match P.underlying t with
 | some (.map kt e)=>match P.underlying kt,z2u h a with
  | some d,some es=>if zd3 d k&&es.all (fun p=>zd3 d p.1) then match zn4 k es 0 with
   | some (_,v)=>some (if ok then .tup [v,.bool true] else v)
   | none=>match zeroV P e with
    | some v=>some (if ok then .tup [v,.bool false] else v)
    | none=>none
   else none
  | _,_=>none
 | _=>none
def updA (P:Program) (h:zaa) (t:TypeId) (a k v:AV):Option zaa:=match P.underlying t,a with
 | some (.map kt _),.map b=>match P.underlying kt,h[b]? with
  | some d,some (.map es)=>if zd3 d k&&es.all (fun p=>zd3 d p.1) then match zn4 k es 0 with
   | some (i,_)=>some (h.set b (.map (es.set i (k,v))))
   | none=>some (h.set b (.map (es++[(k,v)])))
   else none
  | _,_=>none
 | _,_=>none
def exOp (P:Program) (ρ:Operand → Option AV) (h:zaa) (o:Oper):Option R :=
 match o.op with
 | .move x | .assign x=>(ρ x).map .val
 | .pick c a b=>match ρ c,ρ a,ρ b with
  | some (.bool t),some x,some y=>some (.val (if t then x else y))
  | _,_,_=>none
 | .alloc e=>match ti P e with
  | some d=>some (.valh (.ptr h.length 0 0) (h++[.cells 0 (some e) d.zero 0]))
  | none=>none
 | .box e x=>match ρ x with
  | some v=>match v.cells? with
   | some cs=>some (.valh (.ptr h.length 0 0) (h++[.cells 0 (some e) cs 0]))
   | none=>none
  | none=>none
 | .build t ps=>match ti P t,ze8 ρ ps.toList with
  | some d,some l=>match d.desc with
   | .struct fs=>match zcl P fs.toList with
    | some pl=>(zjt (pl[·]?) d.zero l).map fun cs=>.val (.agg cs)
    | none=>none
   | .array _ e=>match ti P e with
    | some de=>(zjt (fun i=>some (i*de.size,de.size)) d.zero l).map fun cs=>.val (.agg cs)
    | none=>none
   | _=>none
  | _,_=>none
 | .buildSlice t n ps=>match P.underlying t,ze8 ρ ps.toList with
  | some (.slice e),some l=>match ti P e with
   | some d=>if n*d.size > 16777216 ∨ d.zero.length≠d.size ∨ d.size=0 then none else
    match zjt (fun i=>some (i*d.size,d.size)) (rep n d.zero) l with
    | some cs=>if cs.all AV.scal ∧ (za9 d.desc=true ∨ d.size=1) then some (.val (.lst d.size (zf9 d n cs) true)) else none
    | none=>none
   | none=>none
  | _,_=>none
 | .load t p=>match ρ p with
  | some a=>(zbv P h t a).map .val
  | none=>none
 | .store t p x=>match ρ p,ρ x with
  | some a,some v=>(znh P h t a v).map fun h'=>.valh .undef h'
  | _,_=>none
 | .nilCheck x=>match ρ x with
  | some (.ptr b v o)=>some (.val (.ptr b v o))
  | some (.pin cs o)=>some (.val (.pin cs o))
  | some (.fn (.func g) y z)=>some (.val (.fn (.func g) y z))
  | some (.ifc t v)=>some (.val (.ifc t v))
  | _=>none
 | .binOp op t x y _=>match ρ x,ρ y with
  | some a,some b=>match a,b with
   | .int _ _,.int _ _=>(binA op a b).map .val
   | .str _,.str _=>(binA op a b).map .val
   | a,b=>if zd4 P t x y a b then match op with
    | .eql=>(eqA P 20 t a b).map fun r=>.val (.bool r)
    | .neq=>(eqA P 20 t a b).map fun r=>.val (.bool (!r))
    | _=>none else none
  | _,_=>none
 | .unOp op _ x=>match ρ x with
  | some a=>(unA op a).map .val
  | none=>none
 | .convert s d x=>match ρ x with
  | some a=>match zhd P h s d a with
   | some v=>some (.val v)
   | none=>ofRes (zkq P h s d a)
  | none=>none
 | .makeInterface t x=>match P.underlying t,ρ x with
  | some (.interface _),_=>none
  | some _,some v=>some (.val (.ifc t v))
  | _,_=>none
 | .makeFunc f xs ys=>match zb9 ρ xs.toList,zb9 ρ ys.toList with
  | some a,some b=>if zhs f then none else some (.val (.fn f a b))
  | _,_=>none
 | .makeSlice t l c=>match P.underlying t,ρ l,ρ c with
  | some (.slice e),some (.int _ a),some (.int _ b)=>match ti P e with
   | some d=>if 0 ≤ a ∧ a ≤ b ∧ b ≤ 1073741824 ∧ d.bytes ≤ 65536 ∧ d.zero.length=d.size ∧ d.size≠0 then
     some (.valh (.sl d.size h.length 0 0 a.toNat) (h++[.cells 0 (some e) (rep a.toNat d.zero) 0])) else none
   | none=>none
  | _,_,_=>none
 | .slice t x lo hi mx=>match ρ x,optM ρ lo,optM ρ hi,optM ρ mx,P.underlying t with
  | some v,some l,some h',some m,some d=>match d,v with
   | .string,.str _=>(zbm 1 v l h' m).map .val
   | .slice e,v=>match ti P e,v with
    | some de,.lst _ _ _=>(zbm de.size v l h' m).map .val
    | some de,.sl _ _ _ _ _=>(zbm de.size v l h' m).map .val
    | _,_=>none
   | .array n e,.ptr b ver o=>match ti P e with
    | some de=>match h[b]? with
     | some (.cells ver' _ cs _)=>if ver'=ver ∧ o+n*de.size ≤ cs.length ∧ 0<n then (zbm de.size (.sl de.size b ver o n) l h' m).map .val else none
     | _=>none
    | none=>none
   | _,_=>none
  | _,_,_,_,_=>none
 | .fieldAddr t x i=>match P.underlying t,ρ x with
  | some (.struct fs),some p=>match fs[i]? with
   | some f=>match ti P f.type with
    | some d=>if d.size=0 then none else match p with
     | .ptr b ver o=>some (.val (.ptr b ver (o+f.offset)))
     | .pin cs o=>some (.val (.pin cs (o+f.offset)))
     | _=>none
    | none=>none
   | none=>none
  | _,_=>none
 | .field t x i=>match P.underlying t,ρ x with
  | some (.struct fs),some (.agg cs)=>match fs[i]? with
   | some f=>match ti P f.type with
    | some d=>(zdw d cs f.offset).map .val
    | none=>none
   | none=>none
  | _,_=>none
 | .indexAddr t x ix=>match P.underlying t,ρ x,ρ ix with
  | some (.slice e),some v,some (.int _ i)=>match ti P e with
   | some d=>match v with
    | .lst sz xs _=>if 0 ≤ i ∧ sz=d.size then match xs[i.toNat]? with
     | some x=>x.cells?.map fun cs=>.val (.pin cs 0)
     | none=>none else none
    | .sl sz b ver o len=>if 0 ≤ i ∧ i<len ∧ sz=d.size then some (.val (.ptr b ver (o+i.toNat*sz))) else none
    | _=>none
   | none=>none
  | some (.array n e),some p,some (.int _ i)=>match ti P e with
   | some d=>if 0 ≤ i ∧ i<n then match p with
    | .ptr b ver o=>some (.val (.ptr b ver (o+i.toNat*d.size)))
    | .pin cs o=>some (.val (.pin cs (o+i.toNat*d.size)))
    | _=>none else none
   | none=>none
  | _,_,_=>none
 | .index t x ix=>match P.underlying t,ρ x,ρ ix with
  | some (.string),some (.str s),some (.int _ i)=>if 0 ≤ i then match s[i.toNat]? with
    | some b=>some (.val (.int .u8 b.toNat))
    | none=>none else none
  | some (.array n e),some (.agg cs),some (.int _ i)=>if 0 ≤ i ∧ i<n then match ti P e with
    | some d=>(zdw d cs (i.toNat*d.size)).map .val
    | none=>none else none
  | _,_,_=>none
 | .extract x i=>match ρ x with
  | some (.tup vs)=>vs[i]?.map .val
  | _=>none
 | .call c=>match zb9 ρ c.args.toList with
  | none=>none
  | some args=>match c.callee with
   | .builtin b=>match zav P h b c.argTypes.toList args with
    | some r=>some r
    | none=>zdt P h b c.argTypes.toList args
   | .value f=>match ρ f with
    | some (.fn (.func g) x y)=>if fnOk P g then some (.call g (x++args++y)) else extA P h g (x++args++y)
    | some (.fn (.yield b) [] [])=>some (.call (P.funcs.size+b) args)
    | _=>none
   | .invoke x name=>match ρ x with
    | some (.ifc t v)=>match zs7 P t name with
     | some g=>if fnOk P g then some (.call g (v::args)) else none
     | none=>none
    | _=>none
 | .typeAssert x _ t ok=>match ρ x with
  | some v=>(zj9 P v t ok).map .val
  | none=>none
 | .sliceToArrayPointer t x=>match P.underlying t,ρ x with
  | some (.array n _),some (.sl _ b ver o len)=>if n ≤ len then some (.val (.ptr b ver o)) else none
  | _,_=>none
 | .makeMap t r=>match P.underlying t,r with
  | some (.map _ _),none=>some (.valh (.map h.length) (h++[.map []]))
  | _,_=>none
 | .lookup t x k ok=>match ρ x,ρ k with
  | some a,some b=>(zzp P h t a b ok).map .val
  | _,_=>none
 | .mapUpdate t x k v=>match ρ x,ρ k,ρ v with
  | some a,some b,some c=>(updA P h t a b c).map (.valh .undef)
  | _,_,_=>none
 | .insert t x k v=>match ρ x,ρ k,ρ v with
  | some a,some b,some c=>(updA P h t a b c).map (.valh .undef)
  | _,_,_=>none
 | _=>none
abbrev SM:=Nat → Nat → Option Value
abbrev BM:=Nat → Nat → Option (Nat × Nat)
def fnR (m:BM):Fn → Fn → Prop
 | .yield b,f=>∃ B K,m b 0=some (B,K) ∧ f=.yield B
 | g,f=>f=g
mutual
def VR (S:SM) (m:BM):AV → Value → Prop
 | .undef,_=>True
 | .bool b,v=>v=.bool b
 | .int k n,v=>v=.int k n
 | .flt k n,v=>v=.float k n
 | .str s,v=>v=.string ⟨s.toArray⟩
 | .nilp,v=>v=.pointer none
 | .ptr b ver o,v=>∃ B K,m b ver=some (B,K) ∧ v=.pointer (some ⟨B,o,none⟩)
 | .pin cs o,v=>∃ B q,v=.pointer (some ⟨B,q+o,none⟩) ∧ CR S m cs B q
 | .lst sz xs c0,v=>∃ a cap,v=.slice a xs.length cap ∧ xs.length ≤ cap ∧ (c0=true → cap=xs.length ∧ (sz=0 → a=none)) ∧ (xs≠[] → ∃ B q,a=some ⟨B,q,none⟩ ∧ ER S m sz xs B q)
 | .sl sz b ver o len,v=>∃ B K cap,m b ver=some (B,K) ∧ v=.slice (some ⟨B,o,none⟩) len cap ∧ len ≤ cap ∧ o+cap*sz ≤ K
 | .mapn,v=>v=.map none
 | .map b,v=>∃ B K,m b 0=some (B,K) ∧ v=.map (some B)
 | .fn f x y,v=>∃ x' y',(∃ f',v=.func f' x' y' ∧ fnR m f f') ∧ VRs S m x x'.toList ∧ VRs S m y y'.toList
 | .nilf,v=>v=.nilFunc
 | .ifc t x,v=>∃ u,v=.iface t u ∧ VR S m x u
 | .nili,v=>v=.nilIface
 | .agg cs,v=>∃ vs,v=.agg vs ∧ VRs S m cs vs.toList
 | .tup cs,v=>∃ vs,v=.tuple vs ∧ VRs S m cs vs.toList
def VRs (S:SM) (m:BM):List AV → List Value → Prop
 | [],vs=>vs=[]
 | x::xs,vs=>∃ v vs',vs=v::vs' ∧ VR S m x v ∧ VRs S m xs vs'
def CR (S:SM) (m:BM):List AV → Nat → Nat → Prop
 | [],_,_=>True
 | x::xs,B,q=>(∃ v,S B q=some v ∧ VR S m x v) ∧ CR S m xs B (q+1)
def ER (S:SM) (m:BM) (sz:Nat):List AV → Nat → Nat → Prop
 | [],_,_=>True
 | .agg cs::xs,B,q=>CR S m cs B q ∧ ER S m sz xs B (q+sz)
 | x::xs,B,q=>(∃ v,S B q=some v ∧ VR S m x v) ∧ ER S m sz xs B (q+sz)
end
def SM.le (S S':SM):Prop:=∀ b o v,S b o=some v → S' b o=some v
def BM.le (m m':BM):Prop:=∀ b v x,m b v=some x → m' b v=some x
theorem SM.le_refl (S:SM):S.le S:=fun _ _ _ h=>h
theorem BM.le_refl (m:BM):m.le m:=fun _ _ _ h=>h
theorem SM.le_trans {S S' S'':SM}(h:S.le S') (h':S'.le S''):S.le S'':=fun _ _ _ g=>h' _ _ _ (h _ _ _ g)
theorem BM.le_trans {m m' m'':BM}(h:m.le m') (h':m'.le m''):m.le m'':=fun _ _ _ g=>h' _ _ _ (h _ _ _ g)
section
variable {S S':SM}{m m':BM}
theorem zb5 {f f':Fn}(hf:zhs f=false):fnR m f f' ↔ f'=f:=by
 cases f<;>first | exact Iff.rfl | (cases hf)
theorem z0b (hm:m.le m') (f:Fn) {f':Fn}(h:fnR m f f'):fnR m' f f':=by
 cases f<;>first | exact h | (obtain ⟨B,K,h1,h2⟩:=h;exact ⟨B,K,hm _ _ _ h1,h2⟩)
mutual
theorem VR.mono (hS:S.le S') (hm:m.le m'):∀ (x:AV) {v:Value},VR S m x v → VR S' m' x v
 | .undef,_,_=>trivial
 | .bool b,_,h=>h
 | .int k n,_,h=>h
 | .flt k n,_,h=>h
 | .str s,_,h=>h
 | .nilp,_,h=>h
 | .ptr b ver o,_,h=>by unfold VR at *;obtain ⟨B,K,h1,h2⟩:=h;exact ⟨B,K,hm _ _ _ h1,h2⟩
 | .pin cs o,_,h=>by unfold VR at *;obtain ⟨B,q,h1,h2⟩:=h;exact ⟨B,q,h1,CR.mono hS hm cs h2⟩
 | .lst sz xs c0,_,h=>by
  unfold VR at *
  obtain ⟨a,cap,h1,h2,h3,h4⟩:=h
  exact ⟨a,cap,h1,h2,h3,fun hne=>let ⟨B,q,h5,h6⟩:=h4 hne;⟨B,q,h5,ER.mono hS hm sz xs h6⟩⟩
 | .sl sz b ver o len,_,h=>by unfold VR at *;obtain ⟨B,K,cap,h1,h2⟩:=h;exact ⟨B,K,cap,hm _ _ _ h1,h2⟩
 | .mapn,_,h=>h
 | .map b,_,h=>by unfold VR at *;obtain ⟨B,K,h1,h2⟩:=h;exact ⟨B,K,hm _ _ _ h1,h2⟩
 | .fn f x y,_,h=>by unfold VR at *;obtain ⟨x',y',⟨f',h1,h4⟩,h2,h3⟩:=h;exact ⟨x',y',⟨f',h1,z0b hm f h4⟩,VRs.mono hS hm x h2,VRs.mono hS hm y h3⟩
 | .nilf,_,h=>h
 | .ifc t x,_,h=>by unfold VR at *;obtain ⟨u,h1,h2⟩:=h;exact ⟨u,h1,VR.mono hS hm x h2⟩
 | .nili,_,h=>h
 | .agg cs,_,h=>by unfold VR at *;obtain ⟨vs,h1,h2⟩:=h;exact ⟨vs,h1,VRs.mono hS hm cs h2⟩
 | .tup cs,_,h=>by unfold VR at *;obtain ⟨vs,h1,h2⟩:=h;exact ⟨vs,h1,VRs.mono hS hm cs h2⟩
theorem VRs.mono (hS:S.le S') (hm:m.le m'):∀ (xs:List AV) {vs:List Value},VRs S m xs vs → VRs S' m' xs vs
 | [],_,h=>h
 | x::xs,_,h=>by unfold VRs at *;obtain ⟨v,vs',h1,h2,h3⟩:=h;exact ⟨v,vs',h1,VR.mono hS hm x h2,VRs.mono hS hm xs h3⟩
theorem CR.mono (hS:S.le S') (hm:m.le m'):∀ (xs:List AV) {B q:Nat},CR S m xs B q → CR S' m' xs B q
 | [],_,_,_=>trivial
 | x::xs,_,_,h=>by unfold CR at *;obtain ⟨⟨v,h1,h2⟩,h3⟩:=h;exact ⟨⟨v,hS _ _ _ h1,VR.mono hS hm x h2⟩,CR.mono hS hm xs h3⟩
theorem ER.mono (hS:S.le S') (hm:m.le m') (sz:Nat):∀ (xs:List AV) {B q:Nat},ER S m sz xs B q → ER S' m' sz xs B q
 | [],_,_,_=>trivial
 | .agg cs::xs,_,_,h=>by unfold ER at *;exact ⟨CR.mono hS hm cs h.1,ER.mono hS hm sz xs h.2⟩
 | .undef::xs,_,_,h=>by unfold ER at *;obtain ⟨⟨v,h1,h2⟩,h3⟩:=h;exact ⟨⟨v,hS _ _ _ h1,VR.mono hS hm _ h2⟩,ER.mono hS hm sz xs h3⟩
 | .bool _::xs,_,_,h=>by unfold ER at *;obtain ⟨⟨v,h1,h2⟩,h3⟩:=h;exact ⟨⟨v,hS _ _ _ h1,VR.mono hS hm _ h2⟩,ER.mono hS hm sz xs h3⟩
 | .int _ _::xs,_,_,h=>by unfold ER at *;obtain ⟨⟨v,h1,h2⟩,h3⟩:=h;exact ⟨⟨v,hS _ _ _ h1,VR.mono hS hm _ h2⟩,ER.mono hS hm sz xs h3⟩
 | .flt _ _::xs,_,_,h=>by unfold ER at *;obtain ⟨⟨v,h1,h2⟩,h3⟩:=h;exact ⟨⟨v,hS _ _ _ h1,VR.mono hS hm _ h2⟩,ER.mono hS hm sz xs h3⟩
 | .str _::xs,_,_,h=>by unfold ER at *;obtain ⟨⟨v,h1,h2⟩,h3⟩:=h;exact ⟨⟨v,hS _ _ _ h1,VR.mono hS hm _ h2⟩,ER.mono hS hm sz xs h3⟩
 | .nilp::xs,_,_,h=>by unfold ER at *;obtain ⟨⟨v,h1,h2⟩,h3⟩:=h;exact ⟨⟨v,hS _ _ _ h1,VR.mono hS hm _ h2⟩,ER.mono hS hm sz xs h3⟩
 | .ptr _ _ _::xs,_,_,h=>by unfold ER at *;obtain ⟨⟨v,h1,h2⟩,h3⟩:=h;exact ⟨⟨v,hS _ _ _ h1,VR.mono hS hm _ h2⟩,ER.mono hS hm sz xs h3⟩
 | .pin a b::xs,_,_,h=>by unfold ER at *;obtain ⟨⟨v,h1,h2⟩,h3⟩:=h;exact ⟨⟨v,hS _ _ _ h1,VR.mono hS hm (.pin a b) h2⟩,ER.mono hS hm sz xs h3⟩
 | .lst a b c::xs,_,_,h=>by unfold ER at *;obtain ⟨⟨v,h1,h2⟩,h3⟩:=h;exact ⟨⟨v,hS _ _ _ h1,VR.mono hS hm (.lst a b c) h2⟩,ER.mono hS hm sz xs h3⟩
 | .sl _ _ _ _ _::xs,_,_,h=>by unfold ER at *;obtain ⟨⟨v,h1,h2⟩,h3⟩:=h;exact ⟨⟨v,hS _ _ _ h1,VR.mono hS hm _ h2⟩,ER.mono hS hm sz xs h3⟩
 | .mapn::xs,_,_,h=>by unfold ER at *;obtain ⟨⟨v,h1,h2⟩,h3⟩:=h;exact ⟨⟨v,hS _ _ _ h1,VR.mono hS hm _ h2⟩,ER.mono hS hm sz xs h3⟩
 | .map _::xs,_,_,h=>by unfold ER at *;obtain ⟨⟨v,h1,h2⟩,h3⟩:=h;exact ⟨⟨v,hS _ _ _ h1,VR.mono hS hm _ h2⟩,ER.mono hS hm sz xs h3⟩
 | .fn a b c::xs,_,_,h=>by unfold ER at *;obtain ⟨⟨v,h1,h2⟩,h3⟩:=h;exact ⟨⟨v,hS _ _ _ h1,VR.mono hS hm (.fn a b c) h2⟩,ER.mono hS hm sz xs h3⟩
 | .nilf::xs,_,_,h=>by unfold ER at *;obtain ⟨⟨v,h1,h2⟩,h3⟩:=h;exact ⟨⟨v,hS _ _ _ h1,VR.mono hS hm _ h2⟩,ER.mono hS hm sz xs h3⟩
 | .ifc a b::xs,_,_,h=>by unfold ER at *;obtain ⟨⟨v,h1,h2⟩,h3⟩:=h;exact ⟨⟨v,hS _ _ _ h1,VR.mono hS hm (.ifc a b) h2⟩,ER.mono hS hm sz xs h3⟩
 | .nili::xs,_,_,h=>by unfold ER at *;obtain ⟨⟨v,h1,h2⟩,h3⟩:=h;exact ⟨⟨v,hS _ _ _ h1,VR.mono hS hm _ h2⟩,ER.mono hS hm sz xs h3⟩
 | .tup a::xs,_,_,h=>by unfold ER at *;obtain ⟨⟨v,h1,h2⟩,h3⟩:=h;exact ⟨⟨v,hS _ _ _ h1,VR.mono hS hm (.tup a) h2⟩,ER.mono hS hm sz xs h3⟩
end
def TR (S:SM) (m:BM) (x:Tm) (ts:Array Value):Prop:=x.n=ts.size ∧ ∀ i,VR S m (x.get i) (ts.getD i (.tuple #[]))
theorem TR.mono (hS:S.le S') (hm:m.le m') {x:Tm}{ts:Array Value}(h:TR S m x ts):TR S' m' x ts:=⟨h.1,fun i=>VR.mono hS hm _ (h.2 i)⟩
theorem TR.set {x:Tm}{ts:Array Value}(h:TR S m x ts) (d:Nat) {y:AV}{v:Value}(hy:VR S m y v):TR S m (x.set d y) (ts.setIfInBounds d v):=by
 refine ⟨by rw [Tm.set_n];simpa using h.1,fun i=>?_⟩
 by_cases hd:d<x.n
 ·by_cases hi:i=d
  ·subst hi
   have e:(ts.setIfInBounds i v).getD i (.tuple #[])=v:=by
    have:i<ts.size:=by have:=h.1;omega
    simp [Array.getD,this]
   rw [e]
   rcases x.get_set_eq y hd with g | g<;>rw [g]
   ·exact hy
   ·unfold VR;trivial
  ·rw [x.get_set_ne y hi]
   have e:(ts.setIfInBounds d v).getD i (.tuple #[])=ts.getD i (.tuple #[]):=by
    simp [Array.getElem?_setIfInBounds_ne (Ne.symm hi)]
   rw [e];exact h.2 i
 ·rw [x.set_out y hd]
  have e:ts.setIfInBounds d v=ts:=by
   have:=h.1
   apply Array.ext_getElem?
   intro j
   by_cases hj:d=j
   ·subst hj
    rw [Array.getElem?_eq_none (by simp;omega),Array.getElem?_eq_none (by omega)]
   ·rw [Array.getElem?_setIfInBounds_ne hj]
  rw [e];exact h.2 i
end
def AB.ver?:AB → Option Nat
 | .dead=>none
 | .cells v _ _ _=>some v
 | .map _=>some 0
 | .dfd=>some 0
 | .loop _ _ _ _ _ _=>some 0
def MR (S:SM) (m:BM):List (AV × AV) → List MapEntry → Prop
 | [],es=>es=[]
 | (k,v)::r,es=>∃ e es',es=e::es' ∧ VR S m k e.key ∧ VR S m v e.val ∧ MR S m r es'
def BlkOk (n₀:Nat) (S:SM) (m:BM) (w:World) (b:Nat):AB → Prop
 | .dead=>True
 | .cells ver el' cs frz=>∃ B K el vs fz,m b ver=some (B,K) ∧ (n₀ ≤ B ∧ ∀ e,el'=some e → el=e ∧ (fz.1=0 ∨ fz.1=fz.2)) ∧ w.heap[B]?=some (.cells vs el fz) ∧ vs.size=K ∧ VRs S m cs (vs.toList.take cs.length) ∧
   (∀ o,frz ≤ o → S B o=none) ∧ (∀ o,frz ≤ o → o<K → w.frozen? ⟨B,o,none⟩=false) ∧ (∀ v,ver<v → m b v=none)
 | .map es=>∃ B K ents clock,m b 0=some (B,K) ∧ n₀ ≤ B ∧ w.heap[B]?=some (.map ents clock) ∧ MR S m es ents.toList ∧ (∀ o,S B o=none) ∧ (∀ v,0<v → m b v=none)
 | .dfd=>∃ B K,m b 0=some (B,K) ∧ n₀ ≤ B ∧ w.heap[B]?=some (.deferred (some [])) ∧ (∀ o,S B o=none) ∧ (∀ v,0<v → m b v=none)
 | .loop busy tms ps asg body db=>∃ B K D fn ts,m b 0=some (B,K) ∧ n₀ ≤ B ∧ w.heap[B]?=some (.loop { state:=if busy then .busy else .ready,pending:=none,fn,tmps:=ts,params:=ps,assign:=asg,body,defers:=D }) ∧
   TR S m tms ts ∧ (∀ o,S B o=none) ∧ (∀ v,0<v → m b v=none)
def Env (w w':World):Prop:=w'.os=w.os ∧ w'.output=w.output ∧ w'.tape=w.tape
theorem Env.refl (w:World):Env w w:=⟨rfl,rfl,rfl⟩
theorem Env.trans {a b c:World}(h:Env a b) (k:Env b c):Env a c:=⟨k.1.trans h.1,k.2.1.trans h.2.1,k.2.2.trans h.2.2⟩
structure Sim (n₀:Nat) (w₀:World) (S₀ S:SM) (m:BM) (h:zaa) (w:World):Prop where
 stable:∀ b o v,S b o=some v → w.cell? ⟨b,o,none⟩=some v
 size:n₀ ≤ w.heap.size
 old:∀ b,b<n₀ → w.heap[b]?=w₀.heap[b]?
 new:∀ b o v,S b o=some v → S₀ b o=some v ∨ n₀ ≤ b
 blk:∀ b x,h[b]?=some x → BlkOk n₀ S m w b x
 inj:∀ b b' x x' ver ver' B K K',b≠b' → h[b]?=some x → h[b']?=some x' → x.ver?=some ver → x'.ver?=some ver' → m b ver=some (B,K) → m b' ver'=some (B,K') → False
 lt:∀ b ver x,m b ver=some x → b<h.length
 env:Env w₀ w
theorem MR.mono {S S':SM}{m m':BM}(hS:S.le S') (hm:m.le m'):∀ (l:List (AV × AV)) {es:List MapEntry},MR S m l es → MR S' m' l es
 | [],_,h=>h
 | (k,v)::r,_,h=>by
  obtain ⟨e,es',h1,h2,h3,h4⟩:=h
  exact ⟨e,es',h1,h2.mono hS hm,h3.mono hS hm,MR.mono hS hm r h4⟩
theorem VRs.length {S:SM}{m:BM}:∀ (xs:List AV) {vs:List Value},VRs S m xs vs → xs.length=vs.length
 | [],_,h=>by unfold VRs at h;subst h;rfl
 | x::xs,_,h=>by unfold VRs at h;obtain ⟨v,vs',rfl,_,h3⟩:=h;simp [VRs.length xs h3]
theorem VRs.get {S:SM}{m:BM}:∀ (xs:List AV) {vs:List Value},VRs S m xs vs → ∀ (i:Nat) (x:AV),xs[i]?=some x → ∃ v,vs[i]?=some v ∧ VR S m x v
 | [],_,h,i,x,hx=>by simp at hx
 | y::ys,_,h,i,x,hx=>by
  unfold VRs at h
  obtain ⟨v,vs',rfl,h2,h3⟩:=h
  cases i with
  | zero=>simp at hx;subst hx;exact ⟨v,rfl,h2⟩
  | succ i=>simpa using VRs.get ys h3 i x (by simpa using hx)
theorem VRs.of_get {S:SM}{m:BM}:∀ (xs:List AV) (vs:List Value),xs.length=vs.length → (∀ (i:Nat) (x:AV) (v:Value),xs[i]?=some x → vs[i]?=some v → VR S m x v) → VRs S m xs vs
 | [],[],_,_=>by unfold VRs;rfl
 | x::xs,v::vs,hl,h=>by
  unfold VRs
  exact ⟨v,vs,rfl,h 0 x v rfl rfl,VRs.of_get xs vs (by simpa using hl) fun i a b ha hb=>h (i+1) a b (by simpa using ha) (by simpa using hb)⟩
 | [],_::_,hl,_=>by simp at hl
 | _::_,[],hl,_=>by simp at hl
theorem VRs.append {S:SM}{m:BM}{xs ys:List AV}{vs us:List Value}(h1:VRs S m xs vs) (h2:VRs S m ys us):VRs S m (xs++ys) (vs++us):=by
 induction xs generalizing vs with
 | nil=>unfold VRs at h1;subst h1;simpa using h2
 | cons x xs ih =>
  unfold VRs at h1
  obtain ⟨v,vs',rfl,h3,h4⟩:=h1
  show VRs S m (x::(xs++ys)) _
  unfold VRs
  exact ⟨v,vs'++us,rfl,h3,ih h4⟩
theorem VRs.take {S:SM}{m:BM}{xs:List AV}{vs:List Value}(h:VRs S m xs vs) (n:Nat):VRs S m (xs.take n) (vs.take n):=by
 have hl:=h.length
 refine VRs.of_get _ _ (by simp [hl]) fun i x v hx hv=>?_
 rw [List.getElem?_take] at hx hv
 split at hx
 ·rename_i hi
  simp only [hi,if_true] at hv
  obtain ⟨v',h1,h2⟩:=h.get _ i x hx
  rw [h1] at hv;cases hv;exact h2
 ·cases hx
theorem VRs.drop {S:SM}{m:BM}{xs:List AV}{vs:List Value}(h:VRs S m xs vs) (n:Nat):VRs S m (xs.drop n) (vs.drop n):=by
 have hl:=h.length
 refine VRs.of_get _ _ (by simp [hl]) fun i x v hx hv=>?_
 rw [List.getElem?_drop] at hx hv
 obtain ⟨v',h1,h2⟩:=h.get _ _ x hx
 rw [h1] at hv;cases hv;exact h2
theorem VRs.set {S:SM}{m:BM}{xs:List AV}{vs:List Value}(h:VRs S m xs vs) (i:Nat) {x:AV}{v:Value}(hx:VR S m x v):VRs S m (xs.set i x) (vs.set i v):=by
 have hl:=h.length
 refine VRs.of_get _ _ (by simp [hl]) fun j a b ha hb=>?_
 rw [List.getElem?_set] at ha hb
 split at ha
 ·rename_i hij
  simp only [hij,if_true] at hb
  split at ha
  ·cases ha
   split at hb
   ·cases hb;exact hx
   ·cases hb
  ·cases ha
 ·rename_i hij
  simp only [hij,if_false] at hb
  obtain ⟨v',h1,h2⟩:=h.get _ _ a ha
  rw [h1] at hb;cases hb;exact h2
theorem VRs.putAt {S:SM}{m:BM}{cs xs:List AV}{vs us:List Value}(h:VRs S m cs vs) (g:VRs S m xs us) (o:Nat) :
  VRs S m (putAt cs o xs) (vs.take o++us++vs.drop (o+us.length)):=by
 unfold Abs.putAt
 rw [g.length]
 exact ((h.take o).append g).append (h.drop _)
theorem World.cell?_heap {w w':World}(h:w'.heap=w.heap) (a:Addr):w'.cell? a=w.cell? a:=by unfold World.cell?;rw [h]
theorem BlkOk.same {n₀:Nat}{S S':SM}{m m':BM}{w w':World}{b:Nat}{x:AB}(h:BlkOk n₀ S m w b x) (hS:S.le S') (hm:m.le m')
  (hw:∀ ver B K,x.ver?=some ver → m b ver=some (B,K) → w'.heap[B]?=w.heap[B]? ∧ ∀ o,S B o=none → S' B o=none) (ht:∀ ver,x.ver?=some ver → ∀ v,ver<v → m' b v=none):BlkOk n₀ S' m' w' b x:=by
 cases x with
 | dead=>trivial
 | cells ver el' cs frz =>
  obtain ⟨B,K,el,vs,fz,h1,h2,h3,h4,h5,h6,h7,h8⟩:=h
  obtain ⟨e1,e2⟩:=hw ver B K rfl h1
  refine ⟨B,K,el,vs,fz,hm _ _ _ h1,h2,by rw [e1];exact h3,h4,h5.mono hS hm,fun o ho=>e2 o (h6 o ho),fun o ho hk=>?_,ht ver rfl⟩
  have:=h7 o ho hk
  unfold World.frozen? at *
  simpa [e1] using this
 | map es =>
  obtain ⟨B,K,en,cl,h1,h2,h3,h4,h5,h6⟩:=h
  obtain ⟨e1,e2⟩:=hw 0 B K rfl h1
  exact ⟨B,K,en,cl,hm _ _ _ h1,h2,by rw [e1];exact h3,h4.mono hS hm _,fun o=>e2 o (h5 o),ht 0 rfl⟩
 | dfd =>
  obtain ⟨B,K,h1,h2,h3,h5,h6⟩:=h
  obtain ⟨e1,e2⟩:=hw 0 B K rfl h1
  exact ⟨B,K,hm _ _ _ h1,h2,by rw [e1];exact h3,fun o=>e2 o (h5 o),ht 0 rfl⟩
 | loop busy tms ps asg body db =>
  obtain ⟨B,K,D,fn,ts,h1,h2,h3,h4,h5,h6⟩:=h
  obtain ⟨e1,e2⟩:=hw 0 B K rfl h1
  exact ⟨B,K,D,fn,ts,hm _ _ _ h1,h2,by rw [e1];exact h3,h4.mono hS hm,fun o=>e2 o (h5 o),ht 0 rfl⟩
theorem BlkOk.at {n₀:Nat}{S:SM}{m:BM}{w:World}{b:Nat}{x:AB}(h:BlkOk n₀ S m w b x) {ver:Nat}(hx:x.ver?=some ver) :
  ∃ B K,m b ver=some (B,K) ∧ n₀ ≤ B ∧ B<w.heap.size ∧ ∀ v,ver<v → m b v=none:=by
 cases x with
 | dead=>cases hx
 | cells ver el' cs frz =>
  obtain ⟨B,K,el,vs,fz,h1,h2,h3,h4,h5,h6,h7,h8⟩:=h
  cases hx
  exact ⟨B,K,h1,h2.1,(Array.getElem?_eq_some_iff.1 h3).1,h8⟩
 | map es =>
  obtain ⟨B,K,en,cl,h1,h2,h3,h4,h5,h6⟩:=h
  cases hx
  exact ⟨B,K,h1,h2,(Array.getElem?_eq_some_iff.1 h3).1,h6⟩
 | dfd =>
  obtain ⟨B,K,h1,h2,h3,h5,h6⟩:=h
  cases hx
  exact ⟨B,K,h1,h2,(Array.getElem?_eq_some_iff.1 h3).1,h6⟩
 | loop busy tms ps asg body db =>
  obtain ⟨B,K,D,fn,ts,h1,h2,h3,h4,h5,h6⟩:=h
  cases hx
  exact ⟨B,K,h1,h2,(Array.getElem?_eq_some_iff.1 h3).1,h6⟩
section
variable {n₀:Nat}{w₀:World}{S₀ S:SM}{m:BM}{h:zaa}{w:World}
theorem Sim.heap (s:Sim n₀ w₀ S₀ S m h w) {w':World}(hw:w'.heap=w.heap) (he:Env w w'):Sim n₀ w₀ S₀ S m h w' where
 stable b o v hv:=by rw [World.cell?_heap hw];exact s.stable b o v hv
 size:=by rw [hw];exact s.size
 old b hb:=by rw [hw];exact s.old b hb
 new:=s.new
 blk b x hx:=(s.blk b x hx).same (SM.le_refl _) (BM.le_refl _) (fun ver B K h1 h2=>⟨by rw [hw],fun _ ho=>ho⟩) (fun ver hv=>by obtain ⟨B',K',g1,g2,g3,g5⟩:=(s.blk b x hx).at hv;exact g5)
 inj:=s.inj
 lt:=s.lt
 env:=s.env.trans he
theorem zdu {w:World}{o:Obj}{a:Addr}{v:Value}(h:w.cell? a=some v):({ w with heap:=w.heap.push o }:World).cell? a=some v:=by
 have hlt:a.block<w.heap.size:=by
  unfold World.cell? at h
  by_cases hlt:a.block<w.heap.size
  ·exact hlt
  ·simp [Array.getElem?_eq_none (Nat.le_of_not_lt hlt)] at h
 unfold World.cell? at *
 simp only [Array.getElem?_push,show a.block≠w.heap.size by omega,if_false]
 exact h
def SM.fresh (S:SM) (B:Nat) (vs:Array Value):SM:=fun b o=>if b=B then vs[o]? else S b o
def BM.put (m:BM) (b ver:Nat) (x:Nat × Nat):BM:=fun b' v'=>if b'=b ∧ v'=ver then some x else m b' v'
theorem SM.fresh_ne (S:SM) {B b:Nat}(vs:Array Value) (o:Nat) (h:b≠B):S.fresh B vs b o=S b o:=by unfold SM.fresh;rw [if_neg h]
theorem SM.fresh_eq (S:SM) (B:Nat) (vs:Array Value) (o:Nat):S.fresh B vs B o=vs[o]?:=by unfold SM.fresh;rw [if_pos rfl]
theorem BM.put_ne (m:BM) {b ver b' v':Nat}(x:Nat × Nat) (h:b'≠b):m.put b ver x b' v'=m b' v':=by unfold BM.put;rw [if_neg (fun e=>h e.1)]
theorem BM.put_ne' (m:BM) {b ver b' v':Nat}(x:Nat × Nat) (h:v'≠ver):m.put b ver x b' v'=m b' v':=by unfold BM.put;rw [if_neg (fun e=>h e.2)]
theorem BM.put_eq (m:BM) (b ver:Nat) (x:Nat × Nat):m.put b ver x b ver=some x:=by unfold BM.put;rw [if_pos ⟨rfl,rfl⟩]
theorem Sim.bound (s:Sim n₀ w₀ S₀ S m h w) {b o:Nat}{v:Value}(hv:S b o=some v):b<w.heap.size:=by
 have:=s.stable b o v hv
 unfold World.cell? at this
 by_cases hlt:b<w.heap.size
 ·exact hlt
 ·simp [Array.getElem?_eq_none (Nat.le_of_not_lt hlt)] at this
theorem Sim.none (s:Sim n₀ w₀ S₀ S m h w) {B:Nat}(hB:w.heap.size ≤ B) (o:Nat):S B o=none:=by
 cases hso:S B o with
 | none=>rfl
 | some v=>exact absurd (s.bound hso) (by omega)
theorem Sim.top (s:Sim n₀ w₀ S₀ S m h w) {b ver:Nat}{x:AB}(hx:h[b]?=some x) (hv:x.ver?=some ver):∀ v,ver<v → m b v=.none:=by
 obtain ⟨B',K',g1,g2,g3,g5⟩:=(s.blk b x hx).at hv;exact g5
theorem Sim.img (s:Sim n₀ w₀ S₀ S m h w) {b ver B K:Nat}{x:AB}(hx:h[b]?=some x) (hv:x.ver?=some ver) (hm:m b ver=some (B,K)):n₀ ≤ B ∧ B<w.heap.size:=by
 obtain ⟨B',K',g1,g2,g3,g5⟩:=(s.blk b x hx).at hv
 rw [g1] at hm;cases hm;exact ⟨g2,g3⟩
theorem Sim.fresh (s:Sim n₀ w₀ S₀ S m h w) (vs:Array Value) (el:TypeId) :
  S.le (S.fresh w.heap.size vs) ∧ Sim n₀ w₀ S₀ (S.fresh w.heap.size vs) m h { w with heap:=w.heap.push (.cells vs el (0,0)) }:=by
 have hle:S.le (S.fresh w.heap.size vs):=fun b o v hv=>by
  have:=s.bound hv
  rw [SM.fresh_ne _ _ _ (by omega)];exact hv
 refine ⟨hle,fun b o v hv=>?_,?_,fun b hb=>?_,fun b o v hv=>?_,fun b x hx=>?_,s.inj,s.lt,s.env⟩
 ·by_cases e:b=w.heap.size
  ·subst e
   rw [SM.fresh_eq] at hv
   simp [World.cell?,hv]
  ·rw [SM.fresh_ne _ _ _ e] at hv
   exact zdu (s.stable b o v hv)
 ·have:=s.size;simp;omega
 ·rw [← s.old b hb]
  have:=s.size
  simp only [Array.getElem?_push,show b≠w.heap.size by omega,if_false]
 ·by_cases e:b=w.heap.size
  ·subst e;exact .inr s.size
  ·rw [SM.fresh_ne _ _ _ e] at hv;exact s.new b o v hv
 ·refine (s.blk b x hx).same hle (BM.le_refl _) (fun ver B K h1 h2=>?_) (fun ver hv=>s.top hx hv)
  obtain ⟨g2,g3⟩:=s.img hx h1 h2
  exact ⟨by simp only [Array.getElem?_push,show B≠w.heap.size by omega,if_false],fun o ho=>by rw [SM.fresh_ne _ _ _ (by omega)];exact ho⟩
theorem zfy {h:zaa}{y:AB}{b:Nat}{x:AB}(hx:(h++[y])[b]?=some x):(b<h.length ∧ h[b]?=some x) ∨ (b=h.length ∧ x=y):=by
 by_cases hb:b<h.length
 ·rw [List.getElem?_append_left hb] at hx;exact .inl ⟨hb,hx⟩
 ·rw [List.getElem?_append_right (by omega)] at hx
  by_cases hb':b=h.length
  ·subst hb';simp at hx;exact .inr ⟨rfl,hx.symm⟩
  ·rw [List.getElem?_eq_none (by simp;omega)] at hx;cases hx
theorem Sim.alloc (s:Sim n₀ w₀ S₀ S m h w) (vs:Array Value) (el:TypeId) (fz:Nat × Nat) (cs:List AV) {el':Option TypeId}(hel:∀ e,el'=some e → el=e ∧ (fz.1=0 ∨ fz.1=fz.2)) (hv:VRs S m cs (vs.toList.take cs.length)) (hf:∀ o,o<vs.size → ¬ (fz.1 ≤ o ∧ o<fz.2)) :
  m.le (m.put h.length 0 (w.heap.size,vs.size)) ∧ Sim n₀ w₀ S₀ S (m.put h.length 0 (w.heap.size,vs.size)) (h++[.cells 0 el' cs 0]) { w with heap:=w.heap.push (.cells vs el fz) }:=by
 have hle:m.le (m.put h.length 0 (w.heap.size,vs.size)):=fun b v x hx=>by
  have:=s.lt b v x hx
  rw [BM.put_ne _ _ (by omega)];exact hx
 refine ⟨hle,fun b o v hv=>zdu (s.stable b o v hv),by have:=s.size;simp;omega,fun b hb=>?_,s.new,fun b x hx=>?_,?_,fun b ver x hx=>?_,s.env⟩
 ·rw [← s.old b hb]
  have:=s.size
  simp only [Array.getElem?_push,show b≠w.heap.size by omega,if_false]
 ·rcases zfy hx with ⟨hb,hx⟩ | ⟨rfl,rfl⟩
  ·refine (s.blk b x hx).same (SM.le_refl _) hle (fun ver B K h1 h2=>?_) (fun ver hv v hlt=>by rw [BM.put_ne _ _ (by omega)];exact s.top hx hv v hlt)
   obtain ⟨g2,g3⟩:=s.img hx h1 h2
   exact ⟨by simp only [Array.getElem?_push,show B≠w.heap.size by omega,if_false],fun _ ho=>ho⟩
  ·refine ⟨w.heap.size,vs.size,el,vs,fz,BM.put_eq _ _ _ _,⟨s.size,hel⟩,by simp,rfl,hv.mono (SM.le_refl _) hle,fun o _=>s.none (Nat.le_refl _) o,fun o _ ho=>?_,fun v hlt=>?_⟩
   ·have:=hf o ho
    simp only [World.frozen?,Array.getElem?_push,if_true]
    simp only [Bool.and_eq_false_iff,decide_eq_false_iff_not]
    omega
   ·rw [BM.put_ne' _ _ (by omega)]
    cases e:m h.length v with
    | none=>rfl
    | some x=>exact absurd (s.lt _ _ _ e) (by omega)
 ·intro b b' x x' ver ver' B K K' hne hx hx' hv hv' h1 h2
  rcases zfy hx with ⟨hb,hx⟩ | ⟨rfl,rfl⟩<;>rcases zfy hx' with ⟨hb',hx'⟩ | ⟨rfl,rfl⟩
  ·rw [BM.put_ne _ _ (by omega)] at h1 h2
   exact s.inj b b' x x' ver ver' B K K' hne hx hx' hv hv' h1 h2
  ·rw [BM.put_ne _ _ (by omega)] at h1
   cases hv'
   rw [BM.put_eq] at h2;cases h2
   have:=s.img hx hv h1;omega
  ·rw [BM.put_ne _ _ (by omega)] at h2
   cases hv
   rw [BM.put_eq] at h1;cases h1
   have:=s.img hx' hv' h2;omega
  ·exact hne rfl
 ·by_cases e:b=h.length
  ·subst e;simp
  ·rw [BM.put_ne _ _ e] at hx
   have:=s.lt b ver x hx;simp;omega
theorem za0 {h:zaa}{b c:Nat}{y x:AB}(hx:(h.set b y)[c]?=some x):(c=b ∧ x=y) ∨ (c≠b ∧ h[c]?=some x):=by
 rw [List.getElem?_set] at hx
 split at hx
 ·rename_i e
  split at hx
  ·cases hx;exact .inl ⟨e.symm,rfl⟩
  ·cases hx
 ·rename_i e;exact .inr ⟨fun h=>e h.symm,hx⟩
theorem Sim.write (s:Sim n₀ w₀ S₀ S m h w) {b ver ver' frz B K el:Nat}{el':Option TypeId}{cs cs':List AV}{vs vs':Array Value}{fz:Nat × Nat}(hb:h[b]?=some (.cells ver el' cs frz)) (hm:m b ver=some (B,K))
  (hB:w.heap[B]?=some (.cells vs el fz)) (hsz:vs'.size=vs.size) (hv:VRs S m cs' (vs'.toList.take cs'.length)) (hver:ver ≤ ver') (hfz:∀ o,o<frz → vs'[o]?=vs[o]?) :
  m.le (m.put b ver' (B,K)) ∧ Sim n₀ w₀ S₀ S (m.put b ver' (B,K)) (h.set b (.cells ver' el' cs' frz)) (w.setRow B vs'):=by
 have hle:m.le (m.put b ver' (B,K)):=fun c v x hx=>by
  by_cases e:c=b ∧ v=ver'
  ·obtain ⟨rfl,rfl⟩:=e
   rw [BM.put_eq]
   rcases Nat.lt_or_ge ver v with hlt | hge
   ·rw [s.top hb rfl v hlt] at hx;cases hx
   ·have:v=ver:=by omega
    subst this;rw [hm] at hx;exact hx
  ·unfold BM.put;rw [if_neg e];exact hx
 obtain ⟨B₁,K₁,el₁,vs₁,fz₁,a1,a2,a3,a4,a5,a6,a7,a8⟩:=s.blk b _ hb
 rw [hm] at a1;cases a1
 rw [hB] at a3;cases a3
 have hBlt:B<w.heap.size:=(Array.getElem?_eq_some_iff.1 hB).1
 have hfro:∀ a,(w.setRow B vs').frozen? a=w.frozen? a:=fun a=>by
  unfold World.frozen?
  by_cases e:a.block=B
  ·rw [e,setRow_heap w B vs vs' el fz hB,hB]
  ·rw [setRow_other w B _ vs' e]
 refine ⟨hle,fun c o v hv=>?_,by simpa using s.size,fun c hc=>?_,s.new,fun c x hx=>?_,?_,fun c v x hx=>?_,s.env⟩
 ·have:=s.stable c o v hv
  unfold World.cell? at *
  by_cases hcB:c=B
  ·subst hcB
   have ho:o<frz:=Nat.lt_of_not_le fun q=>by rw [a6 o q] at hv;cases hv
   simp only [setRow_heap w c vs vs' el fz hB]
   simp only [hB] at this
   rw [hfz o ho];exact this
  ·rw [setRow_other w B c vs' hcB];exact this
 ·rw [setRow_other w B c vs' (by omega)];exact s.old c hc
 ·rcases za0 hx with ⟨rfl,rfl⟩ | ⟨hne,hx⟩
  ·refine ⟨B,K,el,vs',fz,BM.put_eq _ _ _ _,a2,setRow_heap w B vs vs' el fz hB,by omega,hv.mono (SM.le_refl _) hle,a6,fun o ho hk=>by rw [hfro];exact a7 o ho hk,fun v hlt=>?_⟩
   rw [BM.put_ne' _ _ (by omega)];exact a8 v (by omega)
  ·refine (s.blk c x hx).same (SM.le_refl _) hle (fun v C L h1 h2=>?_) (fun v hv u hlt=>by rw [BM.put_ne _ _ hne];exact s.top hx hv u hlt)
   obtain ⟨g2,g3⟩:=s.img hx h1 h2
   have hCB:C≠B:=fun e=>by subst e;exact s.inj c b x _ v ver C L K hne hx hb h1 rfl h2 hm
   exact ⟨setRow_other w B C vs' hCB,fun _ ho=>ho⟩
 ·intro c c' x x' v v' C L L' hne hx hx' hv1 hv2 h1 h2
  rcases za0 hx with ⟨rfl,rfl⟩ | ⟨hc,gx⟩<;>rcases za0 hx' with ⟨rfl,rfl⟩ | ⟨hc',gx'⟩
  ·exact hne rfl
  ·cases hv1
   rw [BM.put_eq] at h1;cases h1
   rw [BM.put_ne _ _ hc'] at h2
   exact s.inj c c' _ x' ver v' _ K L' hne hb gx' rfl hv2 hm h2
  ·cases hv2
   rw [BM.put_eq] at h2;cases h2
   rw [BM.put_ne _ _ hc] at h1
   exact s.inj c c' x _ v ver _ L K hne gx hb hv1 rfl h1 hm
  ·rw [BM.put_ne _ _ hc] at h1
   rw [BM.put_ne _ _ hc'] at h2
   exact s.inj c c' x x' v v' C L L' hne gx gx' hv1 hv2 h1 h2
 ·rw [List.length_set]
  by_cases e:c=b
  ·subst e;exact (List.getElem?_eq_some_iff.1 hb).1
  ·rw [BM.put_ne _ _ e] at hx;exact s.lt c v x hx
theorem Sim.move (s:Sim n₀ w₀ S₀ S m h w) {b ver frz el:Nat}{el':Option TypeId}(hel:∀ e,el'=some e → el=e) {cs cs':List AV}{vs':Array Value}(hb:h[b]?=some (.cells ver el' cs frz)) (hv:VRs S m cs' (vs'.toList.take cs'.length)) :
  m.le (m.put b (ver+1) (w.heap.size,vs'.size)) ∧ Sim n₀ w₀ S₀ S (m.put b (ver+1) (w.heap.size,vs'.size)) (h.set b (.cells (ver+1) el' cs' frz)) { w with heap:=w.heap.push (.cells vs' el (0,0)) }:=by
 have hle:m.le (m.put b (ver+1) (w.heap.size,vs'.size)):=fun c v x hx=>by
  by_cases e:c=b ∧ v=ver+1
  ·obtain ⟨rfl,rfl⟩:=e
   rw [s.top hb rfl _ (Nat.lt_succ_self _)] at hx;cases hx
  ·unfold BM.put;rw [if_neg e];exact hx
 refine ⟨hle,fun c o v hv=>zdu (s.stable c o v hv),by have:=s.size;simp;omega,fun c hc=>?_,s.new,fun c x hx=>?_,?_,fun c v x hx=>?_,s.env⟩
 ·rw [← s.old c hc]
  have:=s.size
  simp only [Array.getElem?_push,show c≠w.heap.size by omega,if_false]
 ·rcases za0 hx with ⟨rfl,rfl⟩ | ⟨hne,hx⟩
  ·refine ⟨w.heap.size,vs'.size,el,vs',(0,0),BM.put_eq _ _ _ _,⟨s.size,fun e he=>⟨hel e he,.inl rfl⟩⟩,by simp,rfl,hv.mono (SM.le_refl _) hle,fun o _=>s.none (Nat.le_refl _) o,fun o ho hk=>by simp [World.frozen?],fun v hlt=>?_⟩
   rw [BM.put_ne' _ _ (by omega)];exact s.top hb rfl v (by omega)
  ·refine (s.blk c x hx).same (SM.le_refl _) hle (fun v C L h1 h2=>?_) (fun v hv u hlt=>by rw [BM.put_ne _ _ hne];exact s.top hx hv u hlt)
   obtain ⟨g2,g3⟩:=s.img hx h1 h2
   exact ⟨by simp only [Array.getElem?_push,show C≠w.heap.size by omega,if_false],fun _ ho=>ho⟩
 ·intro c c' x x' v v' C L L' hne hx hx' hv1 hv2 h1 h2
  rcases za0 hx with ⟨rfl,rfl⟩ | ⟨hc,gx⟩<;>rcases za0 hx' with ⟨rfl,rfl⟩ | ⟨hc',gx'⟩
  ·exact hne rfl
  ·cases hv1
   rw [BM.put_eq] at h1;cases h1
   rw [BM.put_ne _ _ hc'] at h2
   have:=s.img gx' hv2 h2;omega
  ·cases hv2
   rw [BM.put_eq] at h2;cases h2
   rw [BM.put_ne _ _ hc] at h1
   have:=s.img gx hv1 h1;omega
  ·rw [BM.put_ne _ _ hc] at h1
   rw [BM.put_ne _ _ hc'] at h2
   exact s.inj c c' x x' v v' C L L' hne gx gx' hv1 hv2 h1 h2
 ·rw [List.length_set]
  by_cases e:c=b
  ·subst e;exact (List.getElem?_eq_some_iff.1 hb).1
  ·rw [BM.put_ne _ _ e] at hx;exact s.lt c v x hx
theorem Sim.push (s:Sim n₀ w₀ S₀ S m h w) (x:AB) (o:Obj) (K:Nat) (hx0:x.ver?=some 0) (hok:BlkOk n₀ S (m.put h.length 0 (w.heap.size,K)) { w with heap:=w.heap.push o } h.length x) :
  m.le (m.put h.length 0 (w.heap.size,K)) ∧ Sim n₀ w₀ S₀ S (m.put h.length 0 (w.heap.size,K)) (h++[x]) { w with heap:=w.heap.push o }:=by
 have hle:m.le (m.put h.length 0 (w.heap.size,K)):=fun b v x hx=>by
  have:=s.lt b v x hx
  rw [BM.put_ne _ _ (by omega)];exact hx
 refine ⟨hle,fun b o v hv=>zdu (s.stable b o v hv),by have:=s.size;simp;omega,fun b hb=>?_,s.new,fun b x' hx=>?_,?_,fun b ver x' hx=>?_,s.env⟩
 ·rw [← s.old b hb]
  have:=s.size
  simp only [Array.getElem?_push,show b≠w.heap.size by omega,if_false]
 ·rcases zfy hx with ⟨hb,hx⟩ | ⟨rfl,rfl⟩
  ·refine (s.blk b x' hx).same (SM.le_refl _) hle (fun ver B K h1 h2=>?_) (fun ver hv v hlt=>by rw [BM.put_ne _ _ (by omega)];exact s.top hx hv v hlt)
   obtain ⟨g2,g3⟩:=s.img hx h1 h2
   exact ⟨by simp only [Array.getElem?_push,show B≠w.heap.size by omega,if_false],fun _ ho=>ho⟩
  ·exact hok
 ·intro b b' y y' ver ver' B K K' hne hx hx' hv hv' h1 h2
  rcases zfy hx with ⟨hb,gx⟩ | ⟨e1,e2⟩<;>rcases zfy hx' with ⟨hb',gx'⟩ | ⟨e1',e2'⟩
  ·rw [BM.put_ne _ _ (by omega)] at h1 h2
   exact s.inj b b' y y' ver ver' B K K' hne gx gx' hv hv' h1 h2
  ·rw [BM.put_ne _ _ (by omega)] at h1
   subst e1'
   rw [e2',hx0] at hv';cases hv'
   rw [BM.put_eq] at h2;cases h2
   have:=s.img gx hv h1;omega
  ·rw [BM.put_ne _ _ (by omega)] at h2
   subst e1
   rw [e2,hx0] at hv;cases hv
   rw [BM.put_eq] at h1;cases h1
   have:=s.img gx' hv' h2;omega
  ·exact hne (e1.trans e1'.symm)
 ·by_cases e:b=h.length
  ·subst e;simp
  ·rw [BM.put_ne _ _ e] at hx
   have:=s.lt b ver x' hx;simp;omega
theorem Sim.turn (s:Sim n₀ w₀ S₀ S m h w) {b B K:Nat}{x:AB}(hb:h[b]?=some x) (hx0:x.ver?=some 0) (hm:m b 0=some (B,K)) (y:AB) (o:Obj) (hy:∀ v,y.ver?=some v → v=0) (hSB:∀ o,S B o=.none)
  (hok:BlkOk n₀ S m (w.putObj B o) b y):Sim n₀ w₀ S₀ S m (h.set b y) (w.putObj B o):=by
 obtain ⟨hn0,hBlt⟩:=s.img hb hx0 hm
 have hheap:∀ i,i≠B → (w.putObj B o).heap[i]?=w.heap[i]?:=fun i hi=>by
  unfold World.putObj
  simp [Array.getElem?_setIfInBounds_ne (Ne.symm hi)]
 have hsz:(w.putObj B o).heap.size=w.heap.size:=by simp [World.putObj]
 refine ⟨fun c o' v hv=>?_,by rw [hsz];exact s.size,fun c hc=>?_,s.new,fun c x' hx=>?_,?_,fun c v x' hx=>by rw [List.length_set];exact s.lt c v x' hx,s.env⟩
 ·have hcB:c≠B:=fun e=>by subst e;rw [hSB o'] at hv;cases hv
  have:=s.stable c o' v hv
  unfold World.cell? at this ⊢
  rw [hheap c hcB];exact this
 ·rw [hheap c (by omega)];exact s.old c hc
 ·rcases za0 hx with ⟨rfl,rfl⟩ | ⟨hne,hx⟩
  ·exact hok
  ·refine (s.blk c x' hx).same (SM.le_refl _) (BM.le_refl _) (fun ver C L h1 h2=>?_) (fun ver hv=>s.top hx hv)
   have hC:C≠B:=fun e=>by
    subst e
    exact s.inj c b x' x ver 0 C L K hne hx hb h1 hx0 h2 hm
   obtain ⟨g2,g3⟩:=s.img hx h1 h2
   exact ⟨hheap C hC,fun _ ho=>ho⟩
 ·intro c c' y1 y2 v v' C L L' hne hx hx' hv1 hv2 h1 h2
  rcases za0 hx with ⟨rfl,rfl⟩ | ⟨hc,gx⟩<;>rcases za0 hx' with ⟨rfl,rfl⟩ | ⟨hc',gx'⟩
  ·exact hne rfl
  ·have:=hy v hv1;subst this
   exact s.inj c c' x y2 0 v' C L L' hne hb gx' hx0 hv2 h1 h2
  ·have:=hy v' hv2;subst this
   exact s.inj c c' y1 x v 0 C L L' hne gx hb hv1 hx0 h1 h2
  ·exact s.inj c c' y1 y2 v v' C L L' hne gx gx' hv1 hv2 h1 h2
end
section
variable {P:Program}{S:SM}{m:BM}
theorem zld {v:Value}{x:AV}(h:ofV1 v=some x):VR S m x v:=by
 unfold ofV1 at h
 split at h<;>first | (cases h;done) | (cases h;unfold VR;first | rfl | exact ⟨none,0,rfl,Nat.le_refl _,fun _=>⟨rfl,fun _=>rfl⟩,fun h=>absurd rfl h⟩)
theorem zfv:∀ {vs:List Value}{xs:List AV},ofVs vs=some xs → VRs S m xs vs
 | [],_,h=>by unfold ofVs at h;cases h;unfold VRs;rfl
 | v::vs,_,h=>by
  unfold ofVs at h
  split at h
  ·rename_i x xs h1 h2
   cases h
   unfold VRs
   exact ⟨v,vs,rfl,zld h1,zfv h2⟩
  ·cases h
theorem zn3 {v:Value}{x:AV}(h:ofV v=some x):VR S m x v:=by
 unfold ofV at h
 split at h
 ·rename_i cs
  cases hx:ofVs cs.toList with
  | none=>simp [hx] at h
  | some xs =>
   simp [hx] at h;subst h
   unfold VR
   exact ⟨cs,rfl,zfv hx⟩
 ·exact zld h
theorem zdg {t:TypeId}{d:TI}(h:ti P t=some d):P.underlying t=some d.desc ∧ ∃ i z,P.info? t=some i ∧ i.size=d.size ∧ i.bytes=d.bytes ∧ i.zero=some z ∧ ofVs z.cells.toList=some d.zero:=by
 unfold ti at h
 split at h
 ·rename_i i d' h1 h2
  split at h
  ·rename_i z h3
   split at h
   ·rename_i zs h4
    cases h
    exact ⟨h2,i,z,h1,rfl,rfl,h3,h4⟩
   ·cases h
  ·cases h
 ·cases h
theorem zab {t:TypeId}{d:TypeDesc}(h:P.underlying t=some d) (w:World):(underlying t).run P w=.ok d w:=by simp [underlying,h]
theorem zao {t:TypeId}{d:TI}(h:ti P t=some d) (w:World):(sizeOf t).run P w=.ok d.size w:=by
 obtain ⟨_,i,z,h1,h2,_⟩:=zdg h
 simp [sizeOf,typeInfo,h1,h2]
theorem zft {t:TypeId}{d:TI}(h:ti P t=some d) (w:World):(isAgg t).run P w=.ok (za9 d.desc) w:=by
 have:=(zdg h).1
 simp only [isAgg,Sem.run_bind,zab this,Result.andThen_ok]
 cases d.desc<;>simp [za9]
theorem ze1 {t:TypeId}{d:TI}(h:ti P t=some d) (w:World):∃ z,(zeroValue t).run P w=.ok z w ∧ ∀ S m,VRs S m d.zero z.cells.toList:=by
 obtain ⟨_,i,z,h1,h2,_,h3,h4⟩:=zdg h
 exact ⟨z,by simp [zeroValue,typeInfo,h1,h3],fun S m=>zfv h4⟩
def At (S:SM) (m:BM) (w:World) (cs:List AV) (B q:Nat):Prop:=∀ (i:Nat) (x:AV),cs[i]?=some x → ∃ v,w.cell? ⟨B,q+i,none⟩=some v ∧ VR S m x v
theorem CR.get:∀ (cs:List AV) {B q:Nat},CR S m cs B q → ∀ (i:Nat) (x:AV),cs[i]?=some x → ∃ v,S B (q+i)=some v ∧ VR S m x v
 | [],_,_,_,i,x,hx=>by simp at hx
 | y::ys,B,q,h,i,x,hx=>by
  unfold CR at h
  obtain ⟨⟨v,h1,h2⟩,h3⟩:=h
  cases i with
  | zero=>simp at hx;subst hx;exact ⟨v,h1,h2⟩
  | succ i =>
   obtain ⟨u,h4,h5⟩:=CR.get ys h3 i x (by simpa using hx)
   exact ⟨u,by rw [show q+(i+1)=q+1+i by omega];exact h4,h5⟩
theorem CR.of_get:∀ (cs:List AV) (B q:Nat),(∀ (i:Nat) (x:AV),cs[i]?=some x → ∃ v,S B (q+i)=some v ∧ VR S m x v) → CR S m cs B q
 | [],_,_,_=>by unfold CR;trivial
 | y::ys,B,q,h=>by
  unfold CR
  refine ⟨by simpa using h 0 y rfl,CR.of_get ys B (q+1) fun i x hx=>?_⟩
  have:=h (i+1) x (by simpa using hx)
  rwa [show q+(i+1)=q+1+i by omega] at this
variable {n₀:Nat}{w₀:World}{S₀:SM}{h:zaa}{w:World}
theorem CR.at (s:Sim n₀ w₀ S₀ S m h w) {cs:List AV}{B q:Nat}(hc:CR S m cs B q):At S m w cs B q:=fun i x hx =>
 let ⟨v,h1,h2⟩:=hc.get _ i x hx
 ⟨v,s.stable _ _ _ h1,h2⟩
theorem zh9 (s:Sim n₀ w₀ S₀ S m h w) {b ver frz:Nat}{el':Option TypeId}{cs:List AV}(hb:h[b]?=some (.cells ver el' cs frz)) :
  ∃ B K el vs fz,m b ver=some (B,K) ∧ w.heap[B]?=some (.cells vs el fz) ∧ vs.size=K ∧ cs.length ≤ K ∧ VRs S m cs (vs.toList.take cs.length) ∧ At S m w cs B 0 ∧ (∀ o,frz ≤ o → o<K → w.frozen? ⟨B,o,none⟩=false):=by
 obtain ⟨B,K,el,vs,fz,h1,h2,h3,h4,h5,h6,h7,h8⟩:=s.blk b _ hb
 refine ⟨B,K,el,vs,fz,h1,h3,h4,?_,h5,fun i x hx=>?_,h7⟩
 ·have:=h5.length;simp at this;omega
 ·obtain ⟨v,g1,g2⟩:=h5.get _ i x hx
  refine ⟨v,?_,g2⟩
  rw [List.getElem?_take] at g1
  split at g1
  ·simp only [World.cell?,h3,Nat.zero_add,Option.isSome_none,Bool.false_eq_true,if_false];simpa using g1
  ·cases g1
theorem At.drop {cs:List AV}{B q:Nat}(ha:At S m w cs B q) (o:Nat):At S m w (cs.drop o) B (q+o):=fun i x hx=>by
 rw [List.getElem?_drop] at hx
 have:=ha (o+i) x hx
 rwa [show q+(o+i)=q+o+i by omega] at this
theorem At.take {cs:List AV}{B q:Nat}(ha:At S m w cs B q) (n:Nat):At S m w (cs.take n) B q:=fun i x hx=>by
 rw [List.getElem?_take] at hx
 split at hx
 ·exact ha i x hx
 ·cases hx
theorem At.load {cs:List AV}{B q:Nat}(ha:At S m w cs B q):∃ vs:List Value,(loadCells ⟨B,q,none⟩ cs.length).run P w=.ok vs.toArray w ∧ VRs S m cs vs:=by
 have hex:∃ vs:List Value,vs.length=cs.length ∧ (∀ (j:Nat) (v:Value),vs[j]?=some v → w.cell? ⟨B,q+j,none⟩=some v) ∧ VRs S m cs vs:=by
  induction cs generalizing q with
  | nil=>exact ⟨[],rfl,fun j v hv=>by simp at hv,by unfold VRs;rfl⟩
  | cons c cs ih =>
   obtain ⟨v,h1,h2⟩:=ha 0 c rfl
   obtain ⟨vs,g1,g2,g3⟩:=ih (q:=q+1) (fun i x hx=>by have:=ha (i+1) x (by simpa using hx);rwa [show q+(i+1)=q+1+i by omega] at this)
   refine ⟨v::vs,by simp [g1],fun j u hu=>?_,by unfold VRs;exact ⟨v,vs,rfl,h2,g3⟩⟩
   cases j with
   | zero=>simp at hu;subst hu;exact h1
   | succ j=>have:=g2 j u (by simpa using hu);rwa [show q+1+j=q+(j+1) by omega] at this
 obtain ⟨vs,g1,g2,g3⟩:=hex
 refine ⟨vs,?_,g3⟩
 rw [← g1]
 refine run_loadCells_list w _ vs fun j v hv=>?_
 have hadd:(⟨B,q,none⟩ : Addr).add j=⟨B,q+j,none⟩:=by unfold Addr.add;split<;>simp_all
 rw [hadd];exact g2 j v hv
theorem zg3 {t:TypeId}{d:TI}(ht:ti P t=some d) {cs:List AV}{B q o:Nat}{x:AV}(ha:At S m w cs B q) (hx:zdw d cs o=some x) :
  ∃ v,(loadVar t ⟨B,q+o,none⟩).run P w=.ok v w ∧ VR S m x v:=by
 unfold zdw at hx
 cases hd:za9 d.desc with
 | true =>
  simp only [hd,if_true] at hx
  split at hx
  ·rename_i hlen
   cases hx
   obtain ⟨vs,g1,g2⟩:=((ha.drop o).take d.size).load (P:=P)
   have hl:((cs.drop o).take d.size).length=d.size:=by simp;omega
   rw [hl] at g1
   refine ⟨.agg vs.toArray,by simp [loadVar,zft ht,hd,zao ht,g1],?_⟩
   unfold VR
   exact ⟨_,rfl,by simpa using g2⟩
  ·cases hx
 | false =>
  simp only [hd,Bool.false_eq_true,if_false] at hx
  obtain ⟨v,h1,h2⟩:=ha o x hx
  exact ⟨v,by simp [loadVar,zft ht,hd,h1],h2⟩
theorem zdd {t:TypeId}{d:TI}(ht:ti P t=some d) {cs:List AV}{vs:Array Value}{o:Nat}{x:AV}(hv:VRs S m cs vs.toList) (hx:zdw d cs o=some x) :
  ∃ v,(part t vs o).run P w=.ok v w ∧ VR S m x v:=by
 unfold zdw at hx
 cases hd:za9 d.desc with
 | true =>
  simp only [hd,if_true] at hx
  split at hx
  ·cases hx
   refine ⟨.agg (vs.extract o (o+d.size)),by simp [part,zft ht,hd,zao ht],?_⟩
   unfold VR
   refine ⟨_,rfl,?_⟩
   have:=(hv.drop o).take d.size
   rw [Array.toList_extract]
   simpa [List.extract_eq_take_drop] using this
  ·cases hx
 | false =>
  simp only [hd,Bool.false_eq_true,if_false] at hx
  obtain ⟨v,h1,h2⟩:=hv.get _ o x hx
  refine ⟨v,?_,h2⟩
  have h1':vs[o]?=some v:=by simpa using h1
  simp [part,zft ht,hd,h1']
theorem zrd {x:AV}{v:Value}(hs:x.scal=true) (h:VR S m x v):v.oneCell'=true:=by
 cases x<;>simp [AV.scal] at hs<;>unfold VR at h
 all_goals first
  | (subst h;rfl)
  | (obtain ⟨_,_,_,rfl⟩:=h;rfl)
  | (obtain ⟨_,_,rfl,_⟩:=h;rfl)
  | (obtain ⟨_,_,_,_,rfl,_⟩:=h;rfl)
  | (obtain ⟨_,rfl,_⟩:=h;rfl)
  | (obtain ⟨_,_,⟨_,rfl,_⟩,_⟩:=h;rfl)
theorem zi1:∀ {cs:List AV}{vs:List Value},cs.all AV.scal=true → VRs S m cs vs → ∀ v∈vs,v.oneCell'=true
 | [],_,_,h,v,hv=>by unfold VRs at h;subst h;cases hv
 | c::cs,_,hs,h,v,hv=>by
  unfold VRs at h
  obtain ⟨u,us,rfl,h1,h2⟩:=h
  simp at hs
  cases hv with
  | head=>exact zrd hs.1 h1
  | tail _ hv=>exact zi1 (by simpa using hs.2) h2 v hv
theorem zvv {v:Value}(h:v.oneCell'=true):v.cells=#[v]:=by cases v<;>first | rfl | (simp [Value.oneCell'] at h)
theorem zgl {x:AV}{v:Value}{cs:List AV}(hx:x.cells?=some cs) (h:VR S m x v):VRs S m cs v.cells.toList ∧ cs.all AV.scal=true:=by
 have one:∀ y:AV,y.scal=true → VR S m y v → y.cells?=some [y] → x=y → VRs S m cs v.cells.toList ∧ cs.all AV.scal=true:=fun y hy hv he e=>by
  subst e
  rw [hx] at he;cases he
  rw [zvv (zrd hy hv)]
  exact ⟨by unfold VRs;exact ⟨v,[],rfl,hv,by unfold VRs;rfl⟩,by simp [hy]⟩
 cases x with
 | undef=>simp [AV.cells?] at hx
 | tup _=>simp [AV.cells?] at hx
 | agg l =>
  simp only [AV.cells?] at hx
  split at hx
  ·rename_i hl
   cases hx
   unfold VR at h
   obtain ⟨vs,rfl,hv⟩:=h
   exact ⟨hv,hl⟩
  ·cases hx
 | _=>exact one _ rfl h rfl rfl
theorem zcx (P:Program) (g o:Nat) (t:TypeId) (fz:Nat × Nat):∀ (vs:List Value) (i:Nat) (cur:Array Value) (w:World),w.heap[g]?=some (.cells cur t fz) → (∀ j,j<vs.length → w.frozen? ⟨g,o+i+j,none⟩=false) → o+i+vs.length ≤ cur.size → (∀ v∈vs,v.oneCell'=true) →
  (storeCells ⟨g,o,none⟩ vs i).run P w=.ok () (w.setRow g (cur.toList.take (o+i)++vs++cur.toList.drop (o+i+vs.length)).toArray)
 | [],i,cur,w,hg,_,_,_=>by
  simp only [storeCells,List.append_nil,List.length_nil,Nat.add_zero,List.take_append_drop,Array.toArray_toList]
  rw [setRow_self w g cur t fz hg]
  rfl
 | v::rest,i,cur,w,hg,hfz,hl,h1=>by
  have hi:o+i<cur.size:=by simp at hl;omega
  have hadd:(⟨g,o,none⟩ : Addr).add i=⟨g,o+i,none⟩:=by unfold Addr.add;split<;>simp_all
  have hcell:w.cell? ⟨g,o+i,none⟩=some cur[o+i]:=by simp [World.cell?,hg,hi]
  have hfro:w.frozen? ⟨g,o+i,none⟩=false:=by simpa using hfz 0 (by simp)
  have hst:(store ((⟨g,o,none⟩ : Addr).add i) v).run P w=.ok () (w.setRow g (cur.setIfInBounds (o+i) v)):=by
   rw [hadd,run_store P w _ v _ (h1 v (by simp)),hcell]
   simp [hfro,setCell_eq_setRow w g (o+i) cur t fz v hg]
  have ih:=zcx P g o t fz rest (i+1) (cur.setIfInBounds (o+i) v) (w.setRow g (cur.setIfInBounds (o+i) v)) (setRow_heap w g cur _ t _ hg) (fun j hj=>by
    have:=hfz (j+1) (by simp;omega)
    rw [show o+(i+1)+j=o+i+(j+1) by omega]
    unfold World.frozen? at *
    simp only [setRow_heap w g cur _ t _ hg]
    simpa [hg] using this) (by simp at hl ⊢;omega) (fun x hx=>h1 x (by simp [hx]))
  simp only [storeCells,Sem.run_bind,hst,Result.andThen_ok,ih,setRow_setRow]
  congr 3
  have e:=list_seg_step cur.toList (o+i) v rest (by simp at hl ⊢;omega)
  simpa [Array.toList_setIfInBounds,Nat.add_assoc] using e
theorem zng (s:Sim n₀ w₀ S₀ S m h w) {b ver frz o:Nat}{el':Option TypeId}{cs xs:List AV}{us:List Value}(hb:h[b]?=some (.cells ver el' cs frz)) (hx:VRs S m xs us) (hs:xs.all AV.scal=true) (hl:o+xs.length ≤ cs.length) (hf:frz ≤ o) :
  ∃ B K,m b ver=some (B,K) ∧ ∃ w' m',(storeCells ⟨B,o,none⟩ us).run P w=.ok () w' ∧ m.le m' ∧ Sim n₀ w₀ S₀ S m' (h.set b (.cells ver el' (putAt cs o xs) frz)) w':=by
 obtain ⟨B,K,el,vs,fz,h1,h2,h3,h4,h5,h6,h7⟩:=zh9 s hb
 have hlx:=hx.length
 have hrun:=zcx P B o el fz us 0 vs w h2 (fun j hj=>h7 _ (by omega) (by omega)) (by omega) (zi1 hs hx)
 refine ⟨B,K,h1,_,_,hrun,s.write hb h1 h2 (vs':=(vs.toList.take (o+0)++us++vs.toList.drop (o+0+us.length)).toArray) (ver':=ver) (by simp;omega) ?_ (Nat.le_refl _) (fun i hi=>?_)⟩
 case refine_2 =>
  rw [List.getElem?_toArray,List.append_assoc,List.getElem?_append_left (by simp;omega),List.getElem?_take,if_pos (by omega),Array.getElem?_toList]
 have hlen:(putAt cs o xs).length=cs.length:=by unfold putAt;simp;omega
 rw [hlen]
 have:=h5.putAt hx o
 simp only [Nat.add_zero]
 refine VRs.of_get _ _ (by simp [hlen];omega) fun i x v hxi hvi=>?_
 obtain ⟨v',g1,g2⟩:=this.get _ i x hxi
 have hic:i<cs.length:=by rw [← hlen];exact (List.getElem?_eq_some_iff.1 hxi).1
 have:v'=v:=by
  have e1:((vs.toList.take cs.length).take o++us++(vs.toList.take cs.length).drop (o+us.length))[i]?=(vs.toList.take o++us++vs.toList.drop (o+us.length))[i]?:=by
   rw [List.take_take,show min o cs.length=o by omega]
   by_cases hi:i<(vs.toList.take o++us).length
   ·rw [List.getElem?_append_left hi,List.getElem?_append_left hi]
   ·rw [List.getElem?_append_right (by omega),List.getElem?_append_right (by omega),List.getElem?_drop,List.getElem?_drop,List.getElem?_take]
    simp at hi
    rw [if_pos (by simp;omega)]
  rw [e1] at g1
  have hvi':(vs.toList.take o++us++vs.toList.drop (o+us.length))[i]?=some v:=by
   have:=hvi
   rw [List.getElem?_take,if_pos hic] at this
   simpa using this
  rw [g1] at hvi';cases hvi';rfl
 subst this;exact g2
end
def zxw (nx:Next) (v:Value):Prop:=nx=.value v ∨ (nx=.skip ∧ v=Go.undef)
def Fits (P:Program) (n₀:Nat) (w₀:World) (S₀ S:SM) (m:BM) (h:zaa) (w:World) (res:Result Next):R → Prop
 | .val x=>∃ nx v w' S' m',res=.ok nx w' ∧ zxw nx v ∧ S.le S' ∧ m.le m' ∧ VR S' m' x v ∧ Sim n₀ w₀ S₀ S' m' h w'
 | .valh x h'=>∃ nx v w' S' m',res=.ok nx w' ∧ zxw nx v ∧ S.le S' ∧ m.le m' ∧ VR S' m' x v ∧ Sim n₀ w₀ S₀ S' m' h' w'
 | .call f args=>∃ vs,((f<P.funcs.size ∧ res=.ok (.enter f vs) w) ∨ ∃ b B K,f=P.funcs.size+b ∧ m b 0=some (B,K) ∧ res=(Instr.yield B vs).run P w) ∧ VRs S m args vs.toList
 | .pan x=>∃ v w',res=.halt (.panic v) w' ∧ VR S m x v ∧ Sim n₀ w₀ S₀ S m h w'
section
variable {P:Program}{n₀:Nat}{w₀:World}{S₀ S:SM}{m:BM}{h:zaa}{w:World}
theorem Fits.same (s:Sim n₀ w₀ S₀ S m h w) {res:Result Next}{x:AV}{v:Value}(hr:res=.ok (.value v) w) (hv:VR S m x v):Fits P n₀ w₀ S₀ S m h w res (.val x) :=
 ⟨_,v,w,S,m,hr,.inl rfl,SM.le_refl _,BM.le_refl _,hv,s⟩
theorem zfr (l:List UInt8):(⟨l.toArray⟩ : ByteArray).size=l.length:=by simp [ByteArray.size]
theorem zo8 (s:Sim n₀ w₀ S₀ S m h w) {op:BinOp}{t:TypeId}{x y r:AV}{a b:Value}(hr:binA op x y=some r) (hx:VR S m x a) (hy:VR S m y b)
  : ∃ v,(binOp op t a b).run P w=.ok v w ∧ VR S m r v:=by
 unfold binA at hr
 split at hr
 ·rename_i k n k' n'
  unfold VR at hx hy
  subst hx hy
  cases op<;>simp only at hr
  case shl =>
   split at hr
   ·cases hr
   ·rename_i hb;cases hr;exact ⟨_,by simp only [binOp,Op.shift,hb,if_false];rfl,by unfold VR;rfl⟩
  case shr =>
   split at hr
   ·cases hr
   ·rename_i hb;cases hr;exact ⟨_,by simp only [binOp,Op.shift,hb,if_false];rfl,by unfold VR;rfl⟩
  all_goals
   split at hr
   ·cases hr
   ·rename_i hk
    simp only [ne_eq,Decidable.not_not] at hk
    subst hk
    first
     | (cases hr;exact ⟨_,by simp only [binOp,ne_eq,not_true_eq_false,if_false,Op.intArith,Op.intBits,Op.intCmp];rfl,by unfold VR;rfl⟩)
     | (split at hr
        ·cases hr
        ·rename_i hb;cases hr;exact ⟨_,by simp only [binOp,ne_eq,not_true_eq_false,if_false,Op.intDiv,hb];rfl,by unfold VR;rfl⟩)
     | cases hr
 ·rename_i l l'
  unfold VR at hx hy
  subst hx hy
  have e1:(⟨l.toArray⟩ : ByteArray).toList=l:=by rw [ByteArray.toList_eq]
  have e2:(⟨l'.toArray⟩ : ByteArray).toList=l':=by rw [ByteArray.toList_eq]
  cases op<;>simp only at hr
  case add =>
   split at hr
   ·rename_i hb
    cases hr
    refine ⟨_,?_,by unfold VR;rfl⟩
    simp only [binOp,Op.stringOp,zfr]
    rw [if_neg (by unfold IntKind.max;simp [IntKind.signed,IntKind.bits];omega),ByteArray.mk_append_mk]
    rfl
   ·cases hr
  all_goals first
   | (cases hr;exact ⟨_,by simp only [binOp,Op.stringOp,e1,e2];rfl,by unfold VR;rfl⟩)
   | cases hr
 ·cases hr
theorem zyj (s:Sim n₀ w₀ S₀ S m h w) {op:UnOp}{x r:AV}{a:Value}(hr:unA op x=some r) (hx:VR S m x a):∃ v,(Op.unary op a).run P w=.ok v w ∧ VR S m r v:=by
 unfold unA at hr
 split at hr
 ·unfold VR at hx;subst hx
  split at hr
  ·cases hr;exact ⟨_,by simp only [Op.unary];rfl,by unfold VR;rfl⟩
  ·cases hr
 ·unfold VR at hx;subst hx
  split at hr
  ·cases hr;exact ⟨_,by simp only [Op.unary,Op.intArith];rfl,by unfold VR;rfl⟩
  ·cases hr;exact ⟨_,by simp only [Op.unary,Op.intBits];rfl,by unfold VR;rfl⟩
  ·cases hr
 ·cases hr
theorem zlf (s:Sim n₀ w₀ S₀ S m h w) {t:TypeId}{p r:AV}{a:Value}(hr:zbv P h t p=some r) (hp:VR S m p a):∃ v,(Instr.loadAt t a).run P w=.ok v w ∧ VR S m r v:=by
 unfold zbv at hr
 split at hr
 ·rename_i b ver o
  split at hr
  ·rename_i ver' cs frz d hb ht
   split at hr
   ·rename_i e
    subst e
    obtain ⟨B,K,el₀,vs,fz,h1,h2,h3,h4,h5,h6,h7⟩:=zh9 s hb
    unfold VR at hp
    obtain ⟨B',K',g1,rfl⟩:=hp
    rw [h1] at g1;cases g1
    obtain ⟨v,e1,e2⟩:=zg3 (P:=P) ht h6 hr
    refine ⟨v,?_,e2⟩
    simpa [Instr.loadAt,Instr.sureAddr] using e1
   ·cases hr
  ·cases hr
 ·rename_i cs o
  split at hr
  ·rename_i d ht
   unfold VR at hp
   obtain ⟨B,q,rfl,hc⟩:=hp
   obtain ⟨v,e1,e2⟩:=zg3 (P:=P) ht (CR.at s hc) hr
   exact ⟨v,by simpa [Instr.loadAt,Instr.sureAddr] using e1,e2⟩
  ·cases hr
 ·cases hr
theorem zpl (s:Sim n₀ w₀ S₀ S m h w) {t:TypeId}{p x:AV}{a u:Value}{h':zaa}(hr:znh P h t p x=some h') (hp:VR S m p a) (hx:VR S m x u) :
  ∃ w' m',(Instr.storeAt t a u).run P w=.ok () w' ∧ m.le m' ∧ Sim n₀ w₀ S₀ S m' h' w':=by
 unfold znh at hr
 split at hr
 ·rename_i b ver o xs d hc ht
  split at hr
  ·rename_i ver' cs frz hb
   split at hr
   ·rename_i hcond
    obtain ⟨rfl,h1,h2,h3⟩:=hcond
    cases hr
    obtain ⟨hv,hs⟩:=zgl hc hx
    obtain ⟨B,K,g1,w',m',g2,g3,g4⟩:=zng (P:=P) s hb hv hs h2 h3
    unfold VR at hp
    obtain ⟨B',K',g5,rfl⟩:=hp
    rw [g1] at g5;cases g5
    refine ⟨w',m',?_,g3,g4⟩
    have hl:=hv.length
    have hsz:u.cells.size=d.size:=by simpa [h1] using hl.symm
    simp [Instr.storeAt,Instr.sureAddr,storeVar,zao ht,hsz,g2]
   ·cases hr
  ·cases hr
 ·cases hr
theorem zr1:∀ (us:List Value) (j off:Nat) (cs:Array Value),off+j+us.length ≤ cs.size →
  (us.zipIdx j).foldl (fun (a:Array Value) (p:Value × Nat)=>a.setIfInBounds (off+p.2) p.1) cs=(cs.toList.take (off+j)++us++cs.toList.drop (off+j+us.length)).toArray
 | [],j,off,cs,_=>by simp
 | u::us,j,off,cs,hl=>by
  simp only [List.length_cons] at hl
  simp only [List.zipIdx_cons,List.foldl_cons]
  rw [zr1 us (j+1) off _ (by simp;omega)]
  congr 1
  have e:=list_seg_step cs.toList (off+j) u us (by simp;omega)
  simpa [Array.toList_setIfInBounds,Nat.add_assoc] using e
theorem zf1 {place:Nat → Option (Nat × Nat)}:∀ {l:List (Nat × AV)}{vl:List (Nat × Value)}{cs cs':List AV}{vs:Array Value},zjt place cs l=some cs' → VRs S m cs vs.toList →
  (l.map (·.1)=vl.map (·.1) ∧ VRs S m (l.map (·.2)) (vl.map (·.2))) → ∃ vs',Instr.fill place vs vl=some vs' ∧ VRs S m cs' vs'.toList ∧ vs'.size=vs.size
 | [],vl,cs,cs',vs,hf,hv,hl=>by
  unfold zjt at hf;cases hf
  cases vl with
  | nil=>exact ⟨vs,rfl,hv,rfl⟩
  | cons _ _=>simp at hl
 | (i,x)::l,vl,cs,cs',vs,hf,hv,hl=>by
  cases vl with
  | nil=>simp at hl
  | cons p vl =>
   obtain ⟨j,u⟩:=p
   obtain ⟨hl1,hl2⟩:=hl
   simp only [List.map_cons,List.cons.injEq] at hl1
   obtain ⟨rfl,hl1⟩:=hl1
   simp only [List.map_cons] at hl2
   unfold VRs at hl2
   obtain ⟨u',us,e,hx,hl2⟩:=hl2
   cases e
   unfold zjt at hf
   split at hf
   ·rename_i off size xs hp hc
    split at hf
    ·rename_i hcond
     obtain ⟨c1,c2⟩:=hcond
     obtain ⟨hcv,hcs⟩:=zgl hc hx
     have hlu:=hcv.length
     have hlc:=hv.length
     simp at hlu hlc
     have hfold:=zr1 u.cells.toList 0 off vs (by simp;omega)
     have hnew:=hv.putAt hcv off
     obtain ⟨vs',g1,g2,g3⟩:=zf1 (vs:=(vs.toList.take (off+0)++u.cells.toList++vs.toList.drop (off+0+u.cells.toList.length)).toArray) hf (by simpa using hnew) ⟨hl1,hl2⟩
     refine ⟨vs',?_,g2,by rw [g3];simp;omega⟩
     unfold Instr.fill
     simp only [hp]
     rw [if_neg (by simp;omega)]
     rw [← g1,← hfold]
     congr 1
     rw [← Array.foldl_toList]
     simp [Array.toList_zipIdx]
    ·cases hf
   ·cases hf
theorem zh2:∀ {fs:List Field}{pl:List (Nat × Nat)},zcl P fs=some pl → ∀ w,(fs.mapM (fun (f:Field)=>do pure (f.offset,← sizeOf f.type))).run P w=.ok pl w
 | [],_,hp,w=>by unfold zcl at hp;cases hp;rfl
 | f::fs,_,hp,w=>by
  unfold zcl at hp
  split at hp
  ·rename_i d r h1 h2
   cases hp
   have ih:=zh2 h2 w
   simp only [List.mapM_cons,Sem.run_bind,zao h1,Result.andThen_ok,Sem.run_pure,ih]
  ·cases hp
theorem znw {zs:List AV}{us:Array Value}(hz:VRs S m zs us.toList) (hsz:zs.length≠0):∀ n,VRs S m (rep n zs) (((Array.range (n*us.size)).map fun i=>us[i % us.size]!).toList):=by
 intro n
 have hl:=hz.length
 simp at hl
 refine VRs.of_get _ _ ?_ ?_
 ·have:∀ n,(rep n zs).length=n*zs.length:=fun n=>by
   induction n with
   | zero=>simp [rep]
   | succ n ih=>simp [rep,ih,Nat.add_mul];omega
  simp [this,hl]
 ·intro i x v hx hv
  have key:∀ n i,(rep n zs)[i]?=if i<n*zs.length then zs[i % zs.length]? else none:=fun n=>by
   induction n with
   | zero=>intro i;simp [rep]
   | succ n ih =>
    intro i
    simp only [rep]
    by_cases hi:i<zs.length
    ·rw [List.getElem?_append_left hi,if_pos (by rw [Nat.add_mul];omega),Nat.mod_eq_of_lt hi]
    ·rw [List.getElem?_append_right (by omega),ih]
     have e:(i-zs.length) % zs.length=i % zs.length:=by
      conv=>rhs;rw [show i=(i-zs.length)+zs.length by omega,Nat.add_mod_right]
     rw [e]
     by_cases hc:i<(n+1)*zs.length
     ·rw [if_pos hc,if_pos (by rw [Nat.add_mul] at hc;omega)]
     ·rw [if_neg hc,if_neg (by rw [Nat.add_mul] at hc;omega)]
  rw [key] at hx
  split at hx
  ·rename_i hi
   obtain ⟨u,g1,g2⟩:=hz.get _ _ x hx
   simp at hv
   obtain ⟨j,hj,hv⟩:=hv
   have hji:j=i:=by
    rw [List.getElem?_eq_some_iff] at hj
    obtain ⟨_,e⟩:=hj
    simpa using e.symm
   subst hji
   have:us[j % us.size]?=some u:=by rw [← hl];simpa using g1
   simp only [getElem!_def,this] at hv
   subst hv;exact g2
  ·cases hx
end
section
variable {P:Program}{n₀:Nat}{w₀:World}{S₀ S:SM}{m:BM}{h:zaa}{w:World}
theorem ER.tail {sz:Nat}{x:AV}{xs:List AV}{B q:Nat}(he:ER S m sz (x::xs) B q):ER S m sz xs B (q+sz):=by
 cases x<;>unfold ER at he<;>exact he.2
theorem ER.head {sz:Nat}{x:AV}{xs ys:List AV}{B q:Nat}(he:ER S m sz (x::xs) B q) (hy:ER S m sz ys B (q+sz)):ER S m sz (x::ys) B q:=by
 cases x<;>unfold ER at he ⊢<;>exact ⟨he.1,hy⟩
theorem ER.drop {sz:Nat}:∀ (n:Nat) {xs:List AV}{B q:Nat},ER S m sz xs B q → ER S m sz (xs.drop n) B (q+n*sz)
 | 0,_,_,_,he=>by simpa using he
 | n+1,[],_,_,_=>by simp;unfold ER;trivial
 | n+1,x::xs,B,q,he=>by
  have:=ER.drop n he.tail
  rw [show q+(n+1)*sz=q+sz+n*sz by rw [Nat.add_mul];omega]
  simpa using this
theorem ER.take {sz:Nat}:∀ (n:Nat) {xs:List AV}{B q:Nat},ER S m sz xs B q → ER S m sz (xs.take n) B q
 | 0,_,_,_,_=>by simp;unfold ER;trivial
 | n+1,[],_,_,_=>by simp;unfold ER;trivial
 | n+1,x::xs,B,q,he=>he.head (ER.take n he.tail)
theorem ER.cells {sz:Nat}{x:AV}{xs cs:List AV}{B q:Nat}(he:ER S m sz (x::xs) B q) (hc:x.cells?=some cs):CR S m cs B q:=by
 have one:(∃ v,S B q=some v ∧ VR S m x v) → CR S m [x] B q:=fun ⟨v,h1,h2⟩=>by unfold CR;exact ⟨⟨v,h1,h2⟩,by unfold CR;trivial⟩
 cases x<;>unfold ER at he<;>simp only [AV.cells?] at hc<;>first
  | (cases hc;done)
  | (cases hc;exact one he.1)
  | (split at hc
     ·cases hc;exact he.1
     ·cases hc)
theorem ER.get {sz:Nat}{xs:List AV}{B q:Nat}(he:ER S m sz xs B q) {i:Nat}{x:AV}{cs:List AV}(hx:xs[i]?=some x) (hc:x.cells?=some cs):CR S m cs B (q+i*sz):=by
 have:=he.drop i
 rw [List.drop_eq_getElem_cons (List.getElem?_eq_some_iff.1 hx).1,(List.getElem?_eq_some_iff.1 hx).2] at this
 exact this.cells hc
theorem CR.append:∀ {cs ds:List AV}{B q:Nat},CR S m cs B q → CR S m ds B (q+cs.length) → CR S m (cs++ds) B q
 | [],_,_,_,_,h2=>by simpa using h2
 | c::cs,ds,B,q,h1,h2=>by
  unfold CR at h1
  show CR S m (c::(cs++ds)) B q
  unfold CR
  exact ⟨h1.1,CR.append h1.2 (by simp only [List.length_cons] at h2;rwa [show q+(cs.length+1)=q+1+cs.length by omega] at h2)⟩
theorem ER.flat {sz:Nat}:∀ {xs:List AV}{B q:Nat},ER S m sz xs B q → (∀ x∈xs,∃ cs,x.cells?=some cs ∧ cs.length=sz) → CR S m (xs.flatMap fun x=>x.cells?.getD []) B q
 | [],_,_,_,_=>by simp;unfold CR;trivial
 | x::xs,B,q,he,hc=>by
  obtain ⟨cs,h1,h2⟩:=hc x (by simp)
  simp only [List.flatMap_cons,h1,Option.getD_some]
  exact CR.append (he.cells h1) (by rw [h2];exact ER.flat he.tail fun y hy=>hc y (by simp [hy]))
theorem ER.of_cells {sz:Nat}{d:TI}(hd:d.size=sz):∀ (n:Nat) {cs:List AV}{B q:Nat},CR S m cs B q → cs.length=n*sz → cs.all AV.scal=true → (za9 d.desc=false → sz=1) → ER S m sz (zf9 d n cs) B q:=by
 intro n cs B q hc hl hs h1
 unfold zf9
 cases hag:za9 d.desc with
 | false =>
  have:=h1 hag;subst this
  simp only [hag,Bool.false_eq_true,if_false]
  clear hl h1 hd hag
  induction cs generalizing q with
  | nil=>unfold ER;trivial
  | cons c cs ih =>
   unfold CR at hc
   simp at hs
   have hr:=ih hc.2 (by simpa using hs.2)
   cases c<;>simp [AV.scal] at hs<;>unfold ER<;>exact ⟨hc.1,hr⟩
 | true =>
  simp only [hag,if_true]
  rw [hd]
  clear h1 hd hag
  induction n generalizing cs q with
  | zero=>simp [zj0];unfold ER;trivial
  | succ n ih =>
   simp only [zj0,List.map_cons]
   unfold ER
   have hspl:cs=cs.take sz++cs.drop sz:=(List.take_append_drop _ _).symm
   have hlt:(cs.take sz).length=sz:=by simp;rw [hl,Nat.add_mul];omega
   refine ⟨CR.of_get _ _ _ fun i x hx=>?_,ih (CR.of_get _ _ _ fun i x hx=>?_) (by simp [hl,Nat.add_mul]) (by
    rw [List.all_eq_true] at hs ⊢;exact fun x hx=>hs x (List.mem_of_mem_drop hx))⟩
   ·rw [List.getElem?_take] at hx
    split at hx
    ·exact hc.get _ i x hx
    ·cases hx
   ·rw [List.getElem?_drop] at hx
    have:=hc.get _ _ x hx
    rwa [show q+(sz+i)=q+sz+i by omega] at this
def VO:Option Int → Option Value → Prop
 | none,v=>v=none
 | some n,v=>∃ k,v=some (.int k n)
theorem zc8 {k:IntKind}{i:Int}{y:Nat}{c:BoundsCode}(h0:0 ≤ i) (h1:i ≤ y):(Instr.sliceBound (.int k i) y c).run P w=.ok i.toNat w:=by
 simp [Instr.sliceBound,asIntOf,h0,h1]
theorem zfn {is:Bool}{len cap:Nat}{lo hi mx:Option Int}{lv hv mv:Option Value}(hl:VO lo lv) (hh:VO hi hv) (hm:VO mx mv) (hmh:mx.isSome=true → hi.isSome=true)
  (h0:0 ≤ lo.getD 0) (h1:lo.getD 0 ≤ hi.getD len) (h2:hi.getD len ≤ mx.getD cap) (h3:mx.getD cap ≤ cap) :
  (Instr.sliceBounds is len cap lv hv mv).run P w=.ok ((lo.getD 0).toNat,(hi.getD len).toNat,(mx.getD cap).toNat) w:=by
 have e:∀ (a:Int),0 ≤ a → (a.toNat:Int)=a:=fun a ha=>by omega
 cases mx with
 | none =>
  unfold VO at hm;subst hm
  simp only [Option.getD_none] at h2 h3 ⊢
  cases hi with
  | none =>
   unfold VO at hh;subst hh
   simp only [Option.getD_none] at h1 h2 ⊢
   cases lo with
   | none=>unfold VO at hl;subst hl;simp [Instr.sliceBounds]
   | some l =>
    unfold VO at hl;obtain ⟨k,rfl⟩:=hl
    simp only [Option.getD_some] at h0 h1 ⊢
    simp [Instr.sliceBounds,zc8 h0 h1]
  | some x =>
   unfold VO at hh;obtain ⟨k',rfl⟩:=hh
   simp only [Option.getD_some] at h1 h2 ⊢
   have hx0:0 ≤ x:=by omega
   cases lo with
   | none=>unfold VO at hl;subst hl;simp [Instr.sliceBounds,zc8 hx0 h2]
   | some l =>
    unfold VO at hl;obtain ⟨k,rfl⟩:=hl
    simp only [Option.getD_some] at h0 h1 ⊢
    simp [Instr.sliceBounds,zc8 hx0 h2,zc8 (y:=x.toNat) h0 (by omega)]
 | some y =>
  unfold VO at hm;obtain ⟨k'',rfl⟩:=hm
  simp only [Option.getD_some] at h2 h3 ⊢
  have hsome:=hmh rfl
  cases hi with
  | none=>cases hsome
  | some x =>
   unfold VO at hh;obtain ⟨k',rfl⟩:=hh
   simp only [Option.getD_some] at h1 h2 ⊢
   have hx0:0 ≤ x:=by omega
   have hy0:0 ≤ y:=by omega
   cases lo with
   | none=>unfold VO at hl;subst hl;simp [Instr.sliceBounds,zc8 hy0 h3,zc8 (y:=y.toNat) hx0 (by omega)]
   | some l =>
    unfold VO at hl;obtain ⟨k,rfl⟩:=hl
    simp only [Option.getD_some] at h0 h1 ⊢
    simp [Instr.sliceBounds,zc8 hy0 h3,zc8 (y:=y.toNat) hx0 (by omega),zc8 (y:=x.toNat) h0 (by omega)]
theorem zc0 (B q n:Nat):(⟨B,q,none⟩ : Addr).add n=⟨B,q+n,none⟩:=by unfold Addr.add;split<;>simp_all
theorem zlp (l:List UInt8) (a b:Nat):(⟨l.toArray⟩ : ByteArray).extract a b=⟨((l.take b).drop a).toArray⟩:=by
 apply ByteArray.ext
 apply Array.ext'
 rw [Lib.extract_data]
 simp [List.drop_take]
theorem zu1 {t:TypeId}(ht:P.underlying t=some .string) {s:List UInt8}{lo hi mx:Option Int}{lv hv mv:Option Value}(hl:VO lo lv) (hh:VO hi hv) (hm:VO mx mv) {r:AV}{v:Value}
  (hr:zbm 1 (.str s) lo hi mx=some r) (hv':VR S m (.str s) v):∃ u,(Instr.sliceAt t v lv hv mv).run P w=.ok u w ∧ VR S m r u:=by
 unfold zbm at hr
 simp only at hr
 split at hr
 ·rename_i hc
  obtain ⟨c0,c1,c2,c3⟩:=hc
  cases hr
  cases mx with
  | some _=>simp at c0
  | none =>
   unfold VO at hm;subst hm
   unfold VR at hv';subst hv'
   have hb:=zfn (P:=P) (w:=w) (is:=false) (len:=s.length) (cap:=s.length) hl hh (mx:=none) (mv:=none) rfl (by simp) c1 c2 (by simpa using c3) (by simp)
   refine ⟨_,?_,by unfold VR;rfl⟩
   simp [Instr.sliceAt,zab ht,Instr.slice,zfr,hb,zlp]
 ·cases hr
theorem zu2 {t e:TypeId}{de:TI}(ht:P.underlying t=some (.slice e)) (he:ti P e=some de) {sz:Nat}{xs:List AV}{c0:Bool}{lo hi mx:Option Int}{lv hv mv:Option Value}(hl:VO lo lv) (hh:VO hi hv) (hm:VO mx mv) {r:AV}{v:Value}
  (hr:zbm de.size (.lst sz xs c0) lo hi mx=some r) (hv':VR S m (.lst sz xs c0) v):∃ u,(Instr.sliceAt t v lv hv mv).run P w=.ok u w ∧ VR S m r u:=by
 unfold VR at hv'
 obtain ⟨a,cap,rfl,g1,g2,g3⟩:=hv'
 have core:∀ (M:Int),0 ≤ lo.getD 0 → lo.getD 0 ≤ hi.getD xs.length → hi.getD xs.length ≤ M → M ≤ cap → M=mx.getD cap → (mx.isSome=true → hi.isSome=true) → hi.getD xs.length ≤ xs.length → (sz=de.size ∨ xs.length=0) → ∀ c,(c=true → de.size≠0 ∧ M=hi.getD xs.length) →
   ∃ u,(Instr.sliceAt t (.slice a xs.length cap) lv hv mv).run P w=.ok u w ∧ VR S m (.lst de.size ((xs.take (hi.getD xs.length).toNat).drop (lo.getD 0).toNat) c) u:=by
  intro M k0 k1 k2 k3 k4 k5 k6 k7 c hcc
  subst k4
  have hb:=zfn (P:=P) (w:=w) (is:=true) (len:=xs.length) (cap:=cap) hl hh hm k5 k0 k1 k2 k3
  refine ⟨_,by simp [Instr.sliceAt,zab ht,Instr.slice,hb,zao he];rfl,?_⟩
  unfold VR
  have hlen:((xs.take (hi.getD xs.length).toNat).drop (lo.getD 0).toNat).length=(hi.getD xs.length).toNat-(lo.getD 0).toNat:=by simp;omega
  rw [hlen]
  refine ⟨_,_,rfl,by omega,fun hc=>by have:=hcc hc;exact ⟨by omega,fun h0=>absurd h0 this.1⟩,fun hne=>?_⟩
  have hlt:(lo.getD 0).toNat<(hi.getD xs.length).toNat:=by
   have:((xs.take (hi.getD xs.length).toNat).drop (lo.getD 0).toNat).length≠0:=fun h0=>hne (List.eq_nil_of_length_eq_zero h0)
   omega
  have hxs:xs≠[]:=fun e=>by subst e;simp at hne
  obtain ⟨B,q,rfl,her⟩:=g3 hxs
  have hsz : sz = de.size := k7.resolve_right (by have : xs.length ≠ 0 := by simpa using hxs
                                                  exact this)
  subst hsz
  rw [if_neg (by omega)]
  refine ⟨B,q+(lo.getD 0).toNat*de.size,by simp [zc0],(her.take _).drop _⟩
 unfold zbm at hr
 simp only at hr
 cases mx with
 | some y =>
  simp only at hr
  split at hr
  ·rename_i hc
   obtain ⟨d0,d1,d2,d3,d4,d5⟩:=hc
   cases hr
   exact core y d1 d2 d3 (by omega) rfl (fun _=>d0) (by omega) d5 _ (fun hc=>by simp at hc;exact ⟨hc.1,hc.2⟩)
  ·cases hr
 | none =>
  simp only at hr
  split at hr
  ·rename_i hc
   obtain ⟨d1,d2,d3,d5⟩:=hc
   cases hr
   refine core cap d1 d2 (by omega) (Int.le_refl _) rfl (fun h=>by cases h) d3 d5 _ (fun hc=>?_)
   simp at hc
   have:=(g2 hc.2.1).1
   exact ⟨hc.1,by omega⟩
  ·cases hr
theorem zyz {t e:TypeId}{de:TI}(ht:P.underlying t=some (.slice e)) (he:ti P e=some de) {sz b ver o len:Nat}{lo hi mx:Option Int}{lv hv mv:Option Value}(hl:VO lo lv) (hh:VO hi hv) (hm:VO mx mv) {r:AV}{v:Value}
  (hr:zbm de.size (.sl sz b ver o len) lo hi mx=some r) (hv':VR S m (.sl sz b ver o len) v):∃ u,(Instr.sliceAt t v lv hv mv).run P w=.ok u w ∧ VR S m r u:=by
 unfold VR at hv'
 obtain ⟨B,K,cap,g1,rfl,g2,g3⟩:=hv'
 unfold zbm at hr
 simp only at hr
 cases mx with
 | some y =>
  simp only at hr
  split at hr
  ·rename_i hc
   obtain ⟨d0,d1,d2,d3,d4,rfl⟩:=hc
   have hb:=zfn (P:=P) (w:=w) (is:=true) (len:=len) (cap:=cap) hl hh hm (fun _=>d0) d1 d2 d3 (by simp;omega)
   split at hr
   ·rename_i e'
    cases hr
    refine ⟨_,by simp [Instr.sliceAt,zab ht,Instr.slice,hb,zao he];rfl,?_⟩
    unfold VR
    simp only [Option.getD_some] at *
    have h1:(hi.getD len).toNat-(lo.getD 0).toNat=0:=by omega
    have h2:y.toNat-(lo.getD 0).toNat=0:=by omega
    rw [h1,h2]
    exact ⟨_,0,rfl,Nat.le_refl _,fun hs=>⟨rfl,fun h0=>by simp [h0] at hs⟩,fun hne=>absurd rfl hne⟩
   ·rename_i e'
    cases hr
    refine ⟨_,by simp [Instr.sliceAt,zab ht,Instr.slice,hb,zao he];rfl,?_⟩
    unfold VR
    simp only [Option.getD_some] at *
    rw [if_neg (by omega)]
    refine ⟨B,K,y.toNat-(lo.getD 0).toNat,g1,by simp [zc0];omega,by omega,?_⟩
    have:(lo.getD 0).toNat*de.size+(y.toNat-(lo.getD 0).toNat)*de.size ≤ cap*de.size:=by
     rw [← Nat.add_mul];exact Nat.mul_le_mul_right _ (by omega)
    omega
  ·cases hr
 | none =>
  simp only at hr
  split at hr
  ·rename_i hc
   obtain ⟨d1,d2,d3,rfl⟩:=hc
   have hb:=zfn (P:=P) (w:=w) (is:=true) (len:=len) (cap:=cap) hl hh hm (fun h=>by cases h) d1 d2 (by simp;omega) (by simp)
   split at hr
   ·rename_i e'
    cases hr
    refine ⟨_,by simp [Instr.sliceAt,zab ht,Instr.slice,hb,zao he];rfl,?_⟩
    unfold VR
    have h1:(hi.getD len).toNat-(lo.getD 0).toNat=0:=by omega
    rw [h1]
    exact ⟨_,_,rfl,by simp,(fun h=>by cases h),fun hne=>absurd rfl hne⟩
   ·rename_i e'
    cases hr
    refine ⟨_,by simp [Instr.sliceAt,zab ht,Instr.slice,hb,zao he];rfl,?_⟩
    unfold VR
    try simp only [Option.getD_none,Int.toNat_natCast]
    rw [if_neg (by omega)]
    refine ⟨B,K,cap-(lo.getD 0).toNat,g1,by simp [zc0];omega,by omega,?_⟩
    have:(lo.getD 0).toNat*de.size+(cap-(lo.getD 0).toNat)*de.size ≤ cap*de.size:=by
     rw [← Nat.add_mul];exact Nat.mul_le_mul_right _ (by omega)
    omega
  ·cases hr
end
end Go.Abs
