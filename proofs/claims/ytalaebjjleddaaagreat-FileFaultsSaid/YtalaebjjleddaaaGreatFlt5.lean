/- Texts put together: AbsQ. -/
import Derived.Test.YtalaebjjleddaaaGreatFlt4
set_option linter.unusedVariables false
set_option linter.unusedSimpArgs false
namespace Go.Abs
inductive RX where
 | t (n:Nat)
 | c (v:AV)
 deriving Inhabited
def resX:Operand → Option RX
 | .tmp t=>some (.t t)
 | .const v=>(ofV v).map .c
 | .func f=>some (.c (.fn (.func f) [] []))
 | .global _=>none
def zma:List Operand → Option (List RX)
 | []=>some []
 | x::xs=>match resX x,zma xs with
  | some a,some as=>some (a::as)
  | _,_=>none
def zsv:Option Operand → Option (Option RX)
 | none=>some none
 | some x=>(resX x).map some
noncomputable def evX (tm:Tm):RX → AV
 | .t n=>tm.get n
 | .c v=>v
inductive RO where
 | mv (x:RX)
 | pick (c a b:RX)
 | alloc (e:TypeId) (z:List AV)
 | box (e:TypeId) (x:RX)
 | build (z:List AV) (ps:List (Nat × Nat × RX))
 | mkLst (sz:Nat) (ag:Bool) (n:Nat) (z:List AV) (ps:List (Nat × Nat × RX))
 | load (ag:Bool) (sz:Nat) (p:RX)
 | store (sz:Nat) (p x:RX)
 | nilCheck (x:RX)
 | bin (op:BinOp) (x y:RX)
 | cmp (neg:Bool) (t:TypeId) (x y:RX)
 | isNil (neg:Bool) (x:RX)
 | isNilI (neg:Bool) (x:RX)
 | un (op:UnOp) (x:RX)
 | toInt (k:IntKind) (x:RX)
 | toStr (x:RX)
 | strBytes (x:RX)
 | bytesStr (x:RX)
 | mkIfc (t:TypeId) (x:RX)
 | mkFn (f:Fn) (xs ys:List RX)
 | mkSl (e:TypeId) (sz:Nat) (z:List AV) (l c:RX)
 | sliceS (x:RX) (lo hi:Option RX)
 | sliceL (sz:Nat) (x:RX) (lo hi mx:Option RX)
 | sliceP (n sz:Nat) (x:RX) (lo hi mx:Option RX)
 | uData (x:RX)
 | mm (mx:Bool) (x y:RX)
 | mm3 (mx:Bool) (x y z:RX)
 | fieldAddr (off:Nat) (x:RX)
 | field (ag:Bool) (sz off:Nat) (x:RX)
 | indexAddrL (sz:Nat) (x i:RX)
 | indexAddrA (n sz:Nat) (x i:RX)
 | indexS (x i:RX)
 | indexA (ag:Bool) (n sz:Nat) (x i:RX)
 | extract (x:RX) (i:Nat)
 | lenS (x:RX)
 | lenL (x:RX)
 | lenA (n:Nat)
 | app (e:TypeId) (sz:Nat) (s x:RX)
 | cpy (sz:Nat) (s x:RX)
 | callF (g:FuncId) (args:List RX)
 | callV (x:RX) (args:List RX)
 | inv (x:RX) (name:String) (args:List RX)
 | asrt (t:TypeId) (ok z:Bool) (x:RX)
 | uStr (e:TypeId) (p n:RX)
 | toU (x:RX)
 | frU (u:TypeId) (x:RX)
 | capL (x:RX)
 | mkNZ (e:TypeId) (x:RX)
 | s2a (n:Nat) (x:RX)
 | mkMap
 | look (t:TypeId) (ok:Bool) (x k:RX)
 | upd (t:TypeId) (x k v:RX)
 | raw (o:Oper)
 deriving Inhabited
def zkk (ag:Bool) (sz:Nat) (cs:List AV) (off:Nat):Option AV :=
 if ag then (if off+sz ≤ cs.length then some (.agg ((cs.drop off).take sz)) else none) else cs[off]?
noncomputable def ztk (ρ:RX → Option AV) (cs:List AV) (l:List (Nat × Nat × RX)):Option (List AV):=@List.rec (Nat × Nat × RX) (fun _=>List AV → Option (List AV)) (fun cs=>some cs) (fun p _ ih cs=>match p with
 | (off,sz,x)=>match ρ x with
  | some v=>match v.cells? with
   | some xs=>if xs.length=sz ∧ off+xs.length ≤ cs.length then ih (putAt cs off xs) else none
   | none=>none
  | none=>none) l cs
theorem zf2 (ρ:RX → Option AV) (cs:List AV) (off sz:Nat) (x:RX) (r:List (Nat × Nat × RX)):ztk ρ cs ((off,sz,x)::r)=match ρ x with
  | some v=>match v.cells? with
   | some xs=>if xs.length=sz ∧ off+xs.length ≤ cs.length then ztk ρ (putAt cs off xs) r else none
   | none=>none
  | none=>none:=rfl
def zge (place:Nat → Option (Nat × Nat)):List (Nat × Operand) → Option (List (Nat × Nat × RX))
 | []=>some []
 | (i,x)::r=>match place i,resX x,zge place r with
  | some (off,sz),some a,some as=>some ((off,sz,a)::as)
  | _,_,_=>none
def appR (h:zaa) (elem:TypeId) (dsz:Nat) (s x:AV):Option (AV × Option zaa) :=
 match lenA x with
 | some n =>
  match zax h dsz n x with
  | none=>none
  | some ys =>
   if !ys.all AV.scal then none else
   match s with
   | .lst sz xs true=>if n=0 then some (.lst sz xs true,none) else match zax h dsz xs.length (.lst sz xs true) with
    | some old=>if xs.length+n ≤ 1073741824 ∧ old.all AV.scal then some (.sl dsz h.length 0 0 (xs.length+n),some (h++[.cells 0 (some elem) (old++ys) 0])) else none
    | none=>none
   | .sl sz b ver o len=>match h[b]? with
    | some (.cells ver' el cs frz) =>
     if (el=some elem ∨ el=none) ∧ sz=dsz ∧ ver'=ver ∧ o=0 ∧ len*sz=cs.length ∧ cs.all AV.scal ∧ len+n ≤ 1073741824 ∧ frz ≤ cs.length then
      (if n=0 then some (s,none) else some (.sl sz b (ver+1) 0 (len+n),some (h.set b (.cells (ver+1) el (cs++ys) frz))))
     else none
    | _=>none
   | _=>none
 | _=>none
def cpyR (h:zaa) (dsz:Nat) (s x:AV):Option (AV × Option zaa) :=
 match ziz s,lenA x with
 | some a,some b =>
  let n:=min b a
  match zax h dsz n x with
  | none=>none
  | some ys =>
   if n=0 then some (.int .i64 0,none) else
   match s with
   | .sl sz b ver o _=>match h[b]? with
    | some (.cells ver' el cs frz)=>if sz=dsz ∧ ver'=ver ∧ frz ≤ o ∧ o+ys.length ≤ cs.length ∧ ys.all AV.scal then
      some (.int .i64 n,some (h.set b (.cells ver el (putAt cs o ys) frz))) else none
    | _=>none
   | _=>none
 | _,_=>none
def z1u:TypeDesc → Bool
 | .int _=>true
 | .string=>true
 | _=>false
def zvj:TypeDesc → Operand → Bool
 | .pointer _,.const (.pointer none)=>true
 | _,_=>false
theorem zsy {d:TypeDesc}{y:Operand}(h:zvj d y=true):∃ e,d=.pointer e ∧ y=.const (.pointer none):=by
 unfold zvj at h
 split at h
 ·exact ⟨_,rfl,rfl⟩
 ·cases h
def zwh:TypeDesc → Operand → Bool
 | .interface _,.const .nilIface=>true
 | _,_=>false
theorem zte {d:TypeDesc}{y:Operand}(h:zwh d y=true):∃ e,d=.interface e ∧ y=.const .nilIface:=by
 unfold zwh at h
 split at h
 ·exact ⟨_,rfl,rfl⟩
 ·cases h
def zp7 (P:Program) (g:FuncId):Bool:=match P.funcs[g]? with
 | some fn=>fn.body.isNone&&fn.origin == "" && fn.name == "internal/abi.NoEscape"
 | none=>false
theorem zp6 {P:Program}{g:FuncId}{h:zaa}{v:AV}(hg:zp7 P g=true):extA P h g [v]=some (.val v):=by
 unfold zp7 at hg
 unfold extA
 split at hg
 ·rename_i fn hf
  simp only [Bool.and_eq_true,beq_iff_eq] at hg
  rw [hf]
  simp only
  rw [if_pos ⟨hg.1.1,hg.1.2⟩,if_pos hg.2]
 ·cases hg
def zwb (P:Program) (g:FuncId):Option TypeId:=match P.funcs[g]? with
 | some fn=>if fn.body.isNone&&fn.origin == "" && fn.name == "internal/bytealg.MakeNoZero" then match fn.resultTypes.toList with
  | [t]=>match P.underlying t with
   | some (.slice e)=>some e
   | _=>none
  | _=>none else none
 | none=>none
theorem ztc {P:Program}{g:FuncId}{h:zaa}{n:Int}{e:TypeId}(hg:zwb P g=some e) (h0:0 ≤ n) (h1:n ≤ 1073741824):extA P h g [.int .i64 n]=some (.valh (.sl 1 h.length 0 0 n.toNat) (h++[.cells 0 (some e) [] 0])):=by
 unfold zwb at hg
 unfold extA
 split at hg
 ·rename_i fn hf
  split at hg
  ·rename_i hc
   simp only [Bool.and_eq_true,beq_iff_eq] at hc
   split at hg
   ·rename_i t ht
    split at hg
    ·rename_i e' he
     cases hg
     rw [hf]
     simp only
     rw [if_pos ⟨hc.1.1,hc.1.2⟩,if_neg (by rw [hc.2];decide),if_pos hc.2,ht]
     simp only [he]
     rw [if_pos ⟨h0,h1⟩]
    ·cases hg
   ·cases hg
  ·cases hg
 ·cases hg
def zve (P:Program) (o:Oper):Option RO :=
 match o.op with
 | .move x | .assign x=>(resX x).map .mv
 | .pick c a b=>match resX c,resX a,resX b with
  | some c,some a,some b=>some (.pick c a b)
  | _,_,_=>none
 | .alloc e=>(ti P e).map fun d=>.alloc e d.zero
 | .box e x=>(resX x).map (.box e)
 | .build t ps=>match ti P t with
  | some d=>match d.desc with
   | .struct fs=>match zcl P fs.toList with
    | some pl=>(zge (pl[·]?) ps.toList).map (.build d.zero)
    | none=>none
   | .array _ e=>match ti P e with
    | some de=>(zge (fun i=>some (i*de.size,de.size)) ps.toList).map (.build d.zero)
    | none=>none
   | _=>none
  | none=>none
 | .buildSlice t n ps=>match P.underlying t with
  | some (.slice e)=>match ti P e with
   | some d=>if n*d.size > 16777216 ∨ d.zero.length≠d.size ∨ d.size=0 ∨ ¬ (za9 d.desc=true ∨ d.size=1) then none else
    (zge (fun i=>some (i*d.size,d.size)) ps.toList).map (.mkLst d.size (za9 d.desc) n d.zero)
   | none=>none
  | _=>none
 | .load t p=>match ti P t,resX p with
  | some d,some a=>some (.load (za9 d.desc) d.size a)
  | _,_=>none
 | .store t p x=>match ti P t,resX p,resX x with
  | some d,some a,some b=>some (.store d.size a b)
  | _,_,_=>none
 | .nilCheck x=>(resX x).map .nilCheck
 | .binOp op t x y _=>match P.underlying t,resX x,resX y with
  | some d,some a,some b=>if z1u d then some (.bin op a b) else if zvj d y then (match op with
    | .eql=>some (.isNil false a)
    | .neq=>some (.isNil true a)
    | _=>none) else if zwh d y then (match op with
    | .eql=>some (.isNilI false a)
    | .neq=>some (.isNilI true a)
    | _=>none) else
    (if zfx x||zfx y||P.eqGuardType P.depth t then none else match op with
    | .eql=>some (.cmp false t a b)
    | .neq=>some (.cmp true t a b)
    | _=>none)
  | _,_,_=>none
 | .unOp op _ x=>(resX x).map (.un op)
 | .convert s d x=>match P.underlying s,P.underlying d,resX x with
  | some (.int _),some (.int k),some a=>some (.toInt k a)
  | some (.string),some (.string),some a=>some (.toStr a)
  | some (.string),some (.slice e),some a=>match P.underlying e with
   | some (.int .u8)=>some (.strBytes a)
   | _=>none
  | some (.slice e),some (.string),some a=>match P.underlying e with
   | some (.int .u8)=>some (.bytesStr a)
   | _=>none
  | some (.pointer t),some .unsafePointer,some a=>match ti P t with
   | some d=>if d.size=0 then none else some (.toU a)
   | none=>none
  | some .unsafePointer,some (.pointer u),some a=>if (ti P u).isSome then some (.frU u a) else none
  | _,_,_=>none
 | .makeInterface t x=>match P.underlying t,resX x with
  | some (.interface _),_=>none
  | some _,some a=>some (.mkIfc t a)
  | _,_=>none
 | .makeFunc f xs ys=>match zma xs.toList,zma ys.toList with
  | some a,some b=>if zhs f then none else some (.mkFn f a b)
  | _,_=>none
 | .makeSlice t l c=>match P.underlying t,resX l,resX c with
  | some (.slice e),some a,some b=>match ti P e with
   | some d=>if d.bytes ≤ 65536 ∧ d.zero.length=d.size ∧ d.size≠0 then some (.mkSl e d.size d.zero a b) else none
   | none=>none
  | _,_,_=>none
 | .slice t x lo hi mx=>match P.underlying t,resX x,zsv lo,zsv hi,zsv mx with
  | some (.string),some a,some l,some h',some none=>some (.sliceS a l h')
  | some (.slice e),some a,some l,some h',some m=>match ti P e with
   | some de=>some (.sliceL de.size a l h' m)
   | none=>none
  | some (.array n e),some a,some l,some h',some m=>match ti P e with
   | some de=>some (.sliceP n de.size a l h' m)
   | none=>none
  | _,_,_,_,_=>none
 | .fieldAddr t x i=>match P.underlying t,resX x with
  | some (.struct fs),some a=>match fs[i]? with
   | some f=>match ti P f.type with
    | some d=>if d.size=0 then none else some (.fieldAddr f.offset a)
    | none=>none
   | none=>none
  | _,_=>none
 | .field t x i=>match P.underlying t,resX x with
  | some (.struct fs),some a=>match fs[i]? with
   | some f=>match ti P f.type with
    | some d=>some (.field (za9 d.desc) d.size f.offset a)
    | none=>none
   | none=>none
  | _,_=>none
 | .indexAddr t x ix=>match P.underlying t,resX x,resX ix with
  | some (.slice e),some a,some b=>match ti P e with
   | some d=>some (.indexAddrL d.size a b)
   | none=>none
  | some (.array n e),some a,some b=>match ti P e with
   | some d=>some (.indexAddrA n d.size a b)
   | none=>none
  | _,_,_=>none
 | .index t x ix=>match P.underlying t,resX x,resX ix with
  | some (.string),some a,some b=>some (.indexS a b)
  | some (.array n e),some a,some b=>match ti P e with
   | some d=>some (.indexA (za9 d.desc) n d.size a b)
   | none=>none
  | _,_,_=>none
 | .extract x i=>(resX x).map fun a=>.extract a i
 | .call c=>match c.callee with
  | .builtin .len=>match c.argTypes.toList,c.args.toList with
   | [t],[x]=>match P.underlying t,resX x with
    | some (.string),some a=>some (.lenS a)
    | some (.array n _),some _=>some (.lenA n)
    | some (.slice _),some a=>some (.lenL a)
    | _,_=>none
   | _,_=>none
  | .builtin .append=>match c.argTypes.toList,c.args.toList with
   | [t,t2],[s,x]=>match P.underlying t,P.underlying t2,resX s,resX x with
    | some (.slice _),some (.int _),_,_=>none
    | some (.slice e),some _,some a,some b=>match ti P e with
     | some d=>if d.bytes > 65536 ∨ d.size=0 ∨ d.zero.length≠d.size then none else some (.app e d.size a b)
     | none=>none
    | _,_,_,_=>none
   | _,_=>none
  | .builtin .copy=>match c.argTypes.toList,c.args.toList with
   | t::_,[s,x]=>match P.underlying t,resX s,resX x with
    | some (.slice e),some a,some b=>match ti P e with
     | some d=>some (.cpy d.size a b)
     | none=>none
    | _,_,_=>none
   | _,_=>none
  | .builtin .unsafeSliceData=>match c.args.toList with
   | [x]=>(resX x).map .uData
   | _=>none
  | .builtin .min=>match c.args.toList with
   | [x,y]=>match resX x,resX y with
    | some a,some b=>some (.mm false a b)
    | _,_=>none
   | [x,y,z]=>match resX x,resX y,resX z with
    | some a,some b,some c=>some (.mm3 false a b c)
    | _,_,_=>none
   | _=>none
  | .builtin .max=>match c.args.toList with
   | [x,y]=>match resX x,resX y with
    | some a,some b=>some (.mm true a b)
    | _,_=>none
   | [x,y,z]=>match resX x,resX y,resX z with
    | some a,some b,some c=>some (.mm3 true a b c)
    | _,_,_=>none
   | _=>none
  | .builtin .cap=>match c.argTypes.toList,c.args.toList with
   | [t],[x]=>match P.underlying t,resX x with
    | some (.slice _),some a=>some (.capL a)
    | _,_=>none
   | _,_=>none
  | .builtin .unsafeString=>match c.argTypes.toList,c.args.toList with
   | [pt,_],[p,n]=>match P.underlying pt,resX p,resX n with
    | some (.pointer e),some a,some b=>match ti P e with
     | some d=>if d.size=1 then some (.uStr e a b) else none
     | none=>none
    | _,_,_=>none
   | _,_=>none
  | .value (.func g)=>match zma c.args.toList with
   | some as=>if fnOk P g then some (.callF g as) else if zp7 P g then (match as with
    | [a]=>some (.mv a)
    | _=>none) else match zwb P g,as with
     | some e,[a]=>some (.mkNZ e a)
     | _,_=>none
   | none=>none
  | .value (.tmp t)=>match zma c.args.toList with
   | some as=>some (.callV (.t t) as)
   | none=>none
  | .invoke x name=>match resX x,zma c.args.toList with
   | some a,some as=>some (.inv a name as)
   | _,_=>none
  | _=>none
 | .typeAssert x _ t ok=>match P.underlying t,resX x with
  | some (.interface _),_=>none
  | some _,some a=>some (.asrt t ok (ti P t).isSome a)
  | _,_=>none
 | .sliceToArrayPointer t x=>match P.underlying t,resX x with
  | some (.array n _),some a=>some (.s2a n a)
  | _,_=>none
 | .makeMap t r=>match P.underlying t,r with
  | some (.map _ _),none=>some .mkMap
  | _,_=>none
 | .lookup t x k ok=>match resX x,resX k with
  | some a,some b=>some (.look t ok a b)
  | _,_=>none
 | .mapUpdate t x k v=>match resX x,resX k,resX v with
  | some a,some b,some c=>some (.upd t a b c)
  | _,_,_=>none
 | .insert t x k v=>match resX x,resX k,resX v with
  | some a,some b,some c=>some (.upd t a b c)
  | _,_,_=>none
 | _=>none
def resO (P:Program) (o:Oper):RO:=(zve P o).getD (.raw o)
def z3v (op:BinOp) (k:IntKind) (a:Int) (k':IntKind) (b:Int) (K:AV → Prop):Prop :=
 match op with
 | .shl=>0 ≤ b ∧ ∃ z,k.wrap (a*2 ^ (min b.toNat k.bits))=z ∧ K (.int k z)
 | .shr=>0 ≤ b ∧ ∃ z,a.fdiv (2 ^ (min b.toNat k.bits))=z ∧ K (.int k z)
 | _=>if k=k' then
  (match op with
  | .add=>∃ z,k.wrap (a+b)=z ∧ K (.int k z)
  | .sub=>∃ z,k.wrap (a-b)=z ∧ K (.int k z)
  | .mul=>∃ z,k.wrap (a*b)=z ∧ K (.int k z)
  | .quo=>b≠0 ∧ ∃ z,k.wrap (a.tdiv b)=z ∧ K (.int k z)
  | .rem=>b≠0 ∧ ∃ z,a.tmod b=z ∧ K (.int k z)
  | .and=>∃ z,k.wrap (BitVec.ofInt k.bits a &&& BitVec.ofInt k.bits b).toNat=z ∧ K (.int k z)
  | .or=>∃ z,k.wrap (BitVec.ofInt k.bits a ||| BitVec.ofInt k.bits b).toNat=z ∧ K (.int k z)
  | .xor=>∃ z,k.wrap (BitVec.ofInt k.bits a ^^^ BitVec.ofInt k.bits b).toNat=z ∧ K (.int k z)
  | .andNot=>∃ z,k.wrap (BitVec.ofInt k.bits a &&& ~~~BitVec.ofInt k.bits b).toNat=z ∧ K (.int k z)
  | .eql=>K (.bool (a==b))
  | .neq=>K (.bool (a != b))
  | .lss=>K (.bool (decide (a<b)))
  | .leq=>K (.bool (decide (a ≤ b)))
  | .gtr=>K (.bool (decide (b<a)))
  | .geq=>K (.bool (decide (b ≤ a)))
  | _=>False) else False
def z3u (op:BinOp) (x y:List UInt8) (K:AV → Prop):Prop :=
 match op with
 | .add=>x.length+y.length ≤ 4611686018427387904 ∧ K (.str (x++y))
 | .eql=>K (.bool (x==y))
 | .neq=>K (.bool (!(x==y)))
 | .lss=>K (.bool (Op.bytesLess x y))
 | .leq=>K (.bool (Op.bytesLess x y||x==y))
 | .gtr=>K (.bool (!(Op.bytesLess x y||x==y)))
 | .geq=>K (.bool (!Op.bytesLess x y))
 | _=>False
def optX (ρ:RX → Option AV):Option RX → Option (Option Int)
 | none=>some none
 | some x=>match ρ x with
  | some (.int _ n)=>some (some n)
  | _=>none
noncomputable def mapX (ρ:RX → Option AV) (l:List RX):Option (List AV):=@List.rec RX (fun _=>Option (List AV)) (some []) (fun x _ ih=>match ρ x with
  | some a=>match ih with
   | some as=>some (a::as)
   | none=>none
  | none=>none) l
theorem zmm (ρ:RX → Option AV):mapX ρ []=some []:=rfl
theorem zjd (ρ:RX → Option AV) (x:RX) (xs:List RX):mapX ρ (x::xs)=match ρ x with
  | some a=>match mapX ρ xs with
   | some as=>some (a::as)
   | none=>none
  | none=>none:=rfl
def zet (P:Program) (call:zba) (o:Oper) (ρ:Operand → Option AV) (h:zaa):Option (CRes × zaa) :=
 match exOp P ρ h o with
 | some (.val v)=>some (.ret v,h)
 | some (.valh v h')=>some (.ret v,h')
 | some (.call f args)=>call f args h
 | _=>none
def WpR (K:AV → zaa → Prop) (X:AV → zaa → Prop) (h:zaa):CRes → Prop
 | .ret v=>K v h
 | .pan v=>X v h
def WpA (K:AV → zaa → Prop) (h:zaa):Option (AV × Option zaa) → Prop
 | some (v,none)=>K v h
 | some (v,some h')=>K v h'
 | none=>False
def WpC (call:zba) (g:FuncId) (args:List AV) (h:zaa) (K:AV → zaa → Prop) (X:AV → zaa → Prop):Prop :=
 ∃ r h',call g args h=some (r,h') ∧ WpR K X h' r
section
variable (ρ:RX → Option AV) (h:zaa) (K:AV → zaa → Prop)
def WMv (x:RX):Prop:=match ρ x with
 | some v=>K v h
 | none=>False
noncomputable def WPick (c a b:RX):Prop:=match ρ c with
 | some (.bool t)=>match ρ a with
  | some v=>match ρ b with
   | some u=>@Bool.rec (fun _=>Prop) (K u h) (K v h) t
   | none=>t=true ∧ K v h
  | none=>match ρ b with
   | some u=>t=false ∧ K u h
   | none=>False
 | _=>False
def WBox (e:TypeId) (x:RX):Prop:=match ρ x with
 | some v=>match v.cells? with
  | some cs=>K (.ptr h.length 0 0) (h++[.cells 0 (some e) cs 0])
  | none=>False
 | none=>False
noncomputable def zx4 (z:List AV) (ps:List (Nat × Nat × RX)):Prop:=match ztk ρ z ps with
 | some cs=>K (.agg cs) h
 | none=>False
noncomputable def z1h (sz:Nat) (ag:Bool) (n:Nat) (z:List AV) (ps:List (Nat × Nat × RX)):Prop:=match ztk ρ (rep n z) ps with
 | some cs=>cs.all AV.scal=true ∧ K (.lst sz (cond ag ((zj0 sz n cs).map .agg) cs) true) h
 | none=>False
def zt8 (K':AV → Prop):Option AV → Prop
 | some v=>K' v
 | none=>False
def WLoad (ag:Bool) (sz:Nat) (p:RX):Prop:=match ρ p with
 | some (.ptr b ver o)=>∃ el cs frz,h[b]?=some (.cells ver el cs frz) ∧ zt8 (K · h) (zkk ag sz cs o)
 | some (.pin cs o)=>zt8 (K · h) (zkk ag sz cs o)
 | _=>False
def z1g (sz:Nat) (p x:RX):Prop:=match ρ p with
 | some (.ptr b ver o)=>match ρ x with
  | some v=>∃ el cs frz xs,h[b]?=some (.cells ver el cs frz) ∧ v.cells?=some xs ∧ xs.length=sz ∧ o+xs.length ≤ cs.length ∧ frz ≤ o ∧ K .undef (h.set b (.cells ver el (putAt cs o xs) frz))
  | none=>False
 | _=>False
def WNil (x:RX):Prop:=match ρ x with
 | some (.ptr b v o)=>K (.ptr b v o) h
 | some (.pin cs o)=>K (.pin cs o) h
 | some (.fn (.func g) y z)=>K (.fn (.func g) y z) h
 | some (.ifc t v)=>K (.ifc t v) h
 | _=>False
def WBin (op:BinOp) (x y:RX):Prop:=match ρ x with
 | some (.int k a)=>match ρ y with
  | some (.int k' b)=>z3v op k a k' b (K · h)
  | _=>False
 | some (.str a)=>match ρ y with
  | some (.str b)=>z3u op a b (K · h)
  | _=>False
 | _=>False
def WCmp (P:Program) (neg:Bool) (t:TypeId) (x y:RX):Prop:=match ρ x with
 | some (.agg a)=>match ρ y with
  | some (.agg b)=>∃ r,eqA P 20 t (.agg a) (.agg b)=some r ∧ K (.bool (cond neg (!r) r)) h
  | _=>False
 | some (.bool a)=>match ρ y with
  | some (.bool b)=>∃ r,eqA P 20 t (.bool a) (.bool b)=some r ∧ K (.bool (cond neg (!r) r)) h
  | _=>False
 | some (.ptr a v o)=>match ρ y with
  | some (.ptr a' v' o')=>∃ r,eqA P 20 t (.ptr a v o) (.ptr a' v' o')=some r ∧ K (.bool (cond neg (!r) r)) h
  | _=>False
 | _=>False
def z1j (neg:Bool) (x:RX):Prop:=match ρ x with
 | some .nilp=>K (.bool (!neg)) h
 | some (.ptr _ _ _)=>K (.bool neg) h
 | _=>False
def zx1 (neg:Bool) (x:RX):Prop:=match ρ x with
 | some .nili=>K (.bool (!neg)) h
 | some (.ifc _ _)=>K (.bool neg) h
 | _=>False
def WUn (op:UnOp) (x:RX):Prop:=match ρ x with
 | some (.bool b)=>match op with
  | .not=>K (.bool (!b)) h
  | _=>False
 | some (.int k n)=>match op with
  | .neg=>∃ z,k.wrap (0-n)=z ∧ K (.int k z) h
  | .xor=>∃ z,k.wrap (BitVec.ofInt k.bits (if k.signed then -1 else k.max) ^^^ BitVec.ofInt k.bits n).toNat=z ∧ K (.int k z) h
  | _=>False
 | _=>False
def z1f (k:IntKind) (x:RX):Prop:=match ρ x with
 | some (.int _ n)=>∃ z,k.wrap n=z ∧ K (.int k z) h
 | _=>False
def z1e (x:RX):Prop:=match ρ x with
 | some (.str l)=>K (.str l) h
 | _=>False
def zpf (x:RX):Prop:=match ρ x with
 | some (.str l)=>K (.sl 1 h.length 0 0 l.length) (h++[.cells 0 none (l.map fun b=>.int .u8 b.toNat) 0])
 | _=>False
def zpg (x:RX):Prop:=match ρ x with
 | some (.lst sz xs c)=>∃ cs l,zax h 1 xs.length (.lst sz xs c)=some cs ∧ zbe cs=some l ∧ K (.str l) h
 | some (.sl sz b ver o n)=>∃ cs l,zax h 1 n (.sl sz b ver o n)=some cs ∧ zbe cs=some l ∧ K (.str l) h
 | _=>False
def z1i (t:TypeId) (x:RX):Prop:=match ρ x with
 | some v=>K (.ifc t v) h
 | none=>False
noncomputable def WMkFn (f:Fn) (xs ys:List RX):Prop:=match mapX ρ xs with
 | some a=>match mapX ρ ys with
  | some b=>K (.fn f a b) h
  | none=>False
 | none=>False
def WMkSl (e:TypeId) (sz:Nat) (z:List AV) (l c:RX):Prop:=match ρ l with
 | some (.int _ a)=>match ρ c with
  | some (.int _ b)=>0 ≤ a ∧ a ≤ b ∧ b ≤ 1073741824 ∧ K (.sl sz h.length 0 0 a.toNat) (h++[.cells 0 (some e) (rep a.toNat z) 0])
  | _=>False
 | _=>False
def zxy (x:RX) (lo hi:Option RX):Prop:=match ρ x with
 | some (.str s)=>match optX ρ lo with
  | some l=>match optX ρ hi with
   | some u=>0 ≤ l.getD 0 ∧ l.getD 0 ≤ u.getD s.length ∧ u.getD s.length ≤ s.length ∧ ∃ t,(s.take (u.getD s.length).toNat).drop (l.getD 0).toNat=t ∧ K (.str t) h
   | none=>False
  | none=>False
 | _=>False
def zx0 (sz:Nat) (x:RX) (lo hi mx:Option RX):Prop:=match optX ρ lo with
 | some l=>match optX ρ hi with
  | some u=>match optX ρ mx with
   | some m=>match ρ x with
    | some (.lst sz' xs c0)=>∃ v,zbm sz (.lst sz' xs c0) l u m=some v ∧ K v h
    | some (.sl sz' b ver o n)=>∃ v,zbm sz (.sl sz' b ver o n) l u m=some v ∧ K v h
    | _=>False
   | none=>False
  | none=>False
 | none=>False
def zxz (n sz:Nat) (x:RX) (lo hi mx:Option RX):Prop:=match optX ρ lo with
 | some l=>match optX ρ hi with
  | some u=>match optX ρ mx with
   | some m=>match ρ x with
    | some (.ptr b ver o)=>∃ el cs frz,h[b]?=some (.cells ver el cs frz) ∧ (o+n*sz ≤ cs.length ∧ 0<n) ∧ ∃ v,zbm sz (.sl sz b ver o n) l u m=some v ∧ K v h
    | _=>False
   | none=>False
  | none=>False
 | none=>False
def z1d (x:RX):Prop:=match ρ x with
 | some (.lst 0 [] true)=>K .nilp h
 | some (.sl _ b ver o len)=>len≠0 ∧ K (.ptr b ver o) h
 | _=>False
def WMM (mx:Bool) (x y:RX):Prop:=match ρ x with
 | some (.int k a)=>match ρ y with
  | some (.int _ b)=>∃ z,cond mx (if b > a then b else a) (if b<a then b else a)=z ∧ K (.int k z) h
  | _=>False
 | _=>False
def mm2 (mx:Bool) (a b:Int):Int:=cond mx (if b > a then b else a) (if b<a then b else a)
def WMM3 (mx:Bool) (x y z:RX):Prop:=match ρ x with
 | some (.int k a)=>match ρ y with
  | some (.int _ b)=>match ρ z with
   | some (.int _ c)=>∃ z,mm2 mx (mm2 mx a b) c=z ∧ K (.int k z) h
   | _=>False
  | _=>False
 | _=>False
def zlx (off:Nat) (x:RX):Prop:=match ρ x with
 | some (.ptr b ver o)=>K (.ptr b ver (o+off)) h
 | some (.pin cs o)=>K (.pin cs (o+off)) h
 | _=>False
def z1k (ag:Bool) (sz off:Nat) (x:RX):Prop:=match ρ x with
 | some (.agg cs)=>zt8 (K · h) (zkk ag sz cs off)
 | _=>False
def zkg (sz:Nat) (x ix:RX):Prop:=match ρ x with
 | some (.lst sz' xs _)=>match ρ ix with
  | some (.int _ i)=>0 ≤ i ∧ sz'=sz ∧ ∃ y,xs[i.toNat]?=some y ∧ ∃ cs,y.cells?=some cs ∧ K (.pin cs 0) h
  | _=>False
 | some (.sl sz' b ver o len)=>match ρ ix with
  | some (.int _ i)=>0 ≤ i ∧ i<len ∧ sz'=sz ∧ K (.ptr b ver (o+i.toNat*sz')) h
  | _=>False
 | _=>False
def zkh (n sz:Nat) (x ix:RX):Prop:=match ρ ix with
 | some (.int _ i)=>0 ≤ i ∧ i<n ∧ (match ρ x with
  | some (.ptr b ver o)=>K (.ptr b ver (o+i.toNat*sz)) h
  | some (.pin cs o)=>K (.pin cs (o+i.toNat*sz)) h
  | _=>False)
 | _=>False
def zx2 (x ix:RX):Prop:=match ρ x with
 | some (.str s)=>match ρ ix with
  | some (.int _ i)=>0 ≤ i ∧ ∃ b,s[i.toNat]?=some b ∧ K (.int .u8 b.toNat) h
  | _=>False
 | _=>False
def zx3 (ag:Bool) (n sz:Nat) (x ix:RX):Prop:=match ρ x with
 | some (.agg cs)=>match ρ ix with
  | some (.int _ i)=>0 ≤ i ∧ i<n ∧ ∃ v,zkk ag sz cs (i.toNat*sz)=some v ∧ K v h
  | _=>False
 | _=>False
def zsh (x:RX) (i:Nat):Prop:=match ρ x with
 | some (.tup vs)=>zt8 (K · h) vs[i]?
 | _=>False
def WLenS (x:RX):Prop:=match ρ x with
 | some (.str s)=>K (.int .i64 s.length) h
 | _=>False
def WLenL (x:RX):Prop:=match ρ x with
 | some (.lst _ xs _)=>K (.int .i64 xs.length) h
 | some (.sl _ _ _ _ len)=>K (.int .i64 len) h
 | _=>False
def WApp (e:TypeId) (sz:Nat) (s x:RX):Prop:=match ρ s with
 | some a=>match ρ x with
  | some b=>∃ r,appR h e sz a b=r ∧ WpA K h r
  | none=>False
 | none=>False
def WCpy (sz:Nat) (s x:RX):Prop:=match ρ s with
 | some a=>match ρ x with
  | some b=>∃ r,cpyR h sz a b=r ∧ WpA K h r
  | none=>False
 | none=>False
noncomputable def WCall (call:zba) (g:FuncId) (args:List RX) (X:AV → zaa → Prop):Prop:=match mapX ρ args with
 | some as=>WpC call g as h K X
 | none=>False
noncomputable def z1l (P:Program) (call:zba) (x:RX) (args:List RX) (X:AV → zaa → Prop):Prop:=match ρ x with
 | some (.fn (.func g) a b)=>match mapX ρ args with
  | some as=>fnOk P g=true ∧ WpC call g (a++as++b) h K X
  | none=>False
 | some (.fn (.yield b) [] [])=>match mapX ρ args with
  | some as=>WpC call (P.funcs.size+b) as h K X
  | none=>False
 | _=>False
noncomputable def WInv (P:Program) (call:zba) (x:RX) (name:String) (args:List RX) (X:AV → zaa → Prop):Prop:=match ρ x with
 | some (.ifc t v)=>match mapX ρ args with
  | some as=>∃ g,zs7 P t name=some g ∧ fnOk P g=true ∧ WpC call g (v::as) h K X
  | none=>False
 | _=>False
def WAsrt (t:TypeId) (ok z:Bool) (x:RX):Prop:=match ρ x with
 | some (.ifc t' v)=>cond (Nat.beq t' t) (K (cond ok (.tup [v,.bool true]) v) h) (cond (ok&&z) (K (.tup [.undef,.bool false]) h) False)
 | some .nili=>cond (ok&&z) (K (.tup [.undef,.bool false]) h) False
 | _=>False
def WS2A (n:Nat) (x:RX):Prop:=match ρ x with
 | some (.sl _ b ver o len)=>n ≤ len ∧ K (.ptr b ver o) h
 | _=>False
def WLook (P:Program) (t:TypeId) (ok:Bool) (x k:RX):Prop:=match ρ x with
 | some a=>match ρ k with
  | some b=>∃ v,zzp P h t a b ok=some v ∧ K v h
  | none=>False
 | none=>False
def WUpd (P:Program) (t:TypeId) (x k v:RX):Prop:=match ρ x with
 | some a=>match ρ k with
  | some b=>match ρ v with
   | some c=>∃ h',updA P h t a b c=some h' ∧ K .undef h'
   | none=>False
  | none=>False
 | none=>False
def WUStr (e:TypeId) (p n:RX):Prop:=match ρ n with
 | some (.int .i64 k)=>match ρ p with
  | some .nilp=>k=0 ∧ K (.str []) h
  | some (.ptr b ver 0)=>0<k ∧ ∃ cs frz l,h[b]?=some (.cells ver (some e) cs frz) ∧ (k.toNat ≤ cs.length ∧ cs.length ≤ 1073741824) ∧ (cs.take k.toNat).all AV.byteB=true ∧ zbe (cs.take k.toNat)=some l ∧ K (.str l) (h.set b (.cells ver (some e) cs (max frz k.toNat)))
  | _=>False
 | _=>False
def WToU (x:RX):Prop:=match ρ x with
 | some .nilp=>K .nilp h
 | some (.ptr b ver o)=>∃ el cs frz,h[b]?=some (.cells ver el cs frz) ∧ o<cs.length ∧ K (.ptr b ver o) h
 | _=>False
def WCapL (x:RX):Prop:=match ρ x with
 | some (.lst _ xs true)=>∃ k:Nat,xs.length=k ∧ K (.int .i64 k) h
 | _=>False
def WMkNZ (e:TypeId) (x:RX):Prop:=match ρ x with
 | some (.int .i64 n)=>0 ≤ n ∧ n ≤ 1073741824 ∧ K (.sl 1 h.length 0 0 n.toNat) (h++[.cells 0 (some e) [] 0])
 | _=>False
def WFrU (P:Program) (u:TypeId) (x:RX):Prop:=match ρ x with
 | some .nilp=>K .nilp h
 | some (.ptr b ver o)=>∃ el cs frz,h[b]?=some (.cells ver (some el) cs frz) ∧ liesAt P P.depth el (cs.length / P.cellsOf el) o u 1=true ∧ K (.ptr b ver o) h
 | _=>False
def evR (x:Operand):Option AV:=match resX x with
 | some a=>ρ a
 | none=>none
def ztb (x:Operand):Bool:=match resX x with
 | some a=>(ρ a).isSome
 | none=>true
def WRaw (P:Program) (call:zba) (o:Oper) (X:AV → zaa → Prop):Prop :=
 o.op.operands.toList.all (ztb ρ)=true ∧ ∃ r h',zet P call o (evR ρ) h=some (r,h') ∧ WpR K X h' r
end
noncomputable def WpO (P:Program) (call:zba) (ρ:RX → Option AV) (o:RO) (h:zaa) (K:AV → zaa → Prop) (X:AV → zaa → Prop):Prop :=
 match o with
 | .mv x=>WMv ρ h K x
 | .pick c a b=>WPick ρ h K c a b
 | .alloc e z=>K (.ptr h.length 0 0) (h++[.cells 0 (some e) z 0])
 | .box e x=>WBox ρ h K e x
 | .build z ps=>zx4 ρ h K z ps
 | .mkLst sz ag n z ps=>z1h ρ h K sz ag n z ps
 | .load ag sz p=>WLoad ρ h K ag sz p
 | .store sz p x=>z1g ρ h K sz p x
 | .nilCheck x=>WNil ρ h K x
 | .bin op x y=>WBin ρ h K op x y
 | .cmp neg t x y=>WCmp ρ h K P neg t x y
 | .isNil neg x=>z1j ρ h K neg x
 | .isNilI neg x=>zx1 ρ h K neg x
 | .un op x=>WUn ρ h K op x
 | .toInt k x=>z1f ρ h K k x
 | .toStr x=>z1e ρ h K x
 | .strBytes x=>zpf ρ h K x
 | .bytesStr x=>zpg ρ h K x
 | .mkIfc t x=>z1i ρ h K t x
 | .mkFn f xs ys=>WMkFn ρ h K f xs ys
 | .mkSl e sz z l c=>WMkSl ρ h K e sz z l c
 | .sliceS x lo hi=>zxy ρ h K x lo hi
 | .sliceL sz x lo hi mx=>zx0 ρ h K sz x lo hi mx
 | .sliceP n sz x lo hi mx=>zxz ρ h K n sz x lo hi mx
 | .uData x=>z1d ρ h K x
 | .mm mx x y=>WMM ρ h K mx x y
 | .mm3 mx x y z=>WMM3 ρ h K mx x y z
 | .fieldAddr off x=>zlx ρ h K off x
 | .field ag sz off x=>z1k ρ h K ag sz off x
 | .indexAddrL sz x ix=>zkg ρ h K sz x ix
 | .indexAddrA n sz x ix=>zkh ρ h K n sz x ix
 | .indexS x ix=>zx2 ρ h K x ix
 | .indexA ag n sz x ix=>zx3 ρ h K ag n sz x ix
 | .extract x i=>zsh ρ h K x i
 | .lenS x=>WLenS ρ h K x
 | .lenL x=>WLenL ρ h K x
 | .lenA n=>K (.int .i64 n) h
 | .app e sz s x=>WApp ρ h K e sz s x
 | .cpy sz s x=>WCpy ρ h K sz s x
 | .callF g args=>WCall ρ h K call g args X
 | .callV x args=>z1l ρ h K P call x args X
 | .inv x name args=>WInv ρ h K P call x name args X
 | .asrt t ok z x=>WAsrt ρ h K t ok z x
 | .uStr e p n=>WUStr ρ h K e p n
 | .toU x=>WToU ρ h K x
 | .frU u x=>WFrU ρ h K P u x
 | .capL x=>WCapL ρ h K x
 | .mkNZ e x=>WMkNZ ρ h K e x
 | .s2a n x=>WS2A ρ h K n x
 | .mkMap=>K (.map h.length) (h++[.map []])
 | .look t ok x k=>WLook ρ h K P t ok x k
 | .upd t x k v=>WUpd ρ h K P t x k v
 | .raw o=>WRaw ρ h K P call o X
section
variable {P:Program}{call:zba}{tm:Tm}{ρ:RX → Option AV}{h:zaa}{K X:AV → zaa → Prop}
theorem zmb {x:Operand}{a:RX}(hr:resX x=some a):ev tm x=some (evX tm a):=by
 cases x with
 | tmp t=>simp [resX] at hr;subst hr;rfl
 | const v =>
  simp [resX] at hr
  obtain ⟨w,h1,h2⟩:=hr
  subst h2;exact h1
 | global g=>simp [resX] at hr
 | func f=>simp [resX] at hr;subst hr;rfl
def Agree (ρ:RX → Option AV) (tm:Tm):Prop:=∀ x a,ρ x=some a → evX tm x=a
theorem Agree.ev (hρ:Agree ρ tm) {x:Operand}{a:RX}{v:AV}(h1:resX x=some a) (hx:ρ a=some v):ev tm x=some v:=by
 rw [zmb h1,hρ _ _ hx]
theorem Agree.map (hρ:Agree ρ tm):∀ {xs:List Operand}{as:List RX}{vs:List AV},zma xs=some as → mapX ρ as=some vs → zb9 (Abs.ev tm) xs=some vs
 | [],_,vs,h,hv=>by simp [zma] at h;subst h;simp [zmm] at hv;subst hv;rfl
 | x::xs,_,vs,h,hv=>by
  unfold zma at h
  split at h
  ·rename_i a as h1 h2
   cases h
   rw [zjd] at hv
   split at hv
   ·rename_i v hx
    split at hv
    ·rename_i vs' hvs
     cases hv
     unfold zb9
     rw [hρ.ev h1 hx,hρ.map h2 hvs]
    ·cases hv
   ·cases hv
  ·cases h
theorem Agree.opt (hρ:Agree ρ tm) {x:Option Operand}{a:Option RX}(hr:zsv x=some a) {l:Option Int}(ho:optX ρ a=some l):optM (Abs.ev tm) x=some l:=by
 cases x with
 | none=>simp [zsv] at hr;subst hr;exact ho
 | some y =>
  simp [zsv] at hr
  obtain ⟨b,h1,h2⟩:=hr
  subst h2
  unfold optX at ho
  split at ho
  ·cases ho;rename_i e;cases e
  ·rename_i y' e
   cases e
   split at ho
   ·rename_i k n he
    cases ho
    unfold optM
    simp only [hρ.ev h1 he]
   ·cases ho
theorem Agree.fill (hρ:Agree ρ tm) {place:Nat → Option (Nat × Nat)}:∀ {ps:List (Nat × Operand)}{qs:List (Nat × Nat × RX)}{cs cs':List AV},zge place ps=some qs → ztk ρ cs qs=some cs' → ∃ l,ze8 (Abs.ev tm) ps=some l ∧ zjt place cs l=some cs'
 | [],_,cs,cs',h1,h2=>by simp [zge] at h1;subst h1;exact ⟨[],rfl,h2⟩
 | (i,x)::ps,_,cs,cs',h1,h2=>by
  unfold zge at h1
  split at h1
  ·rename_i off sz a as e1 e2 e3
   cases h1
   rw [zf2] at h2
   split at h2
   ·rename_i v hv
    split at h2
    ·rename_i xs hx
     split at h2
     ·rename_i hc
      obtain ⟨l,g1,g2⟩:=hρ.fill e3 h2
      refine ⟨(i,v)::l,?_,?_⟩
      ·unfold ze8;rw [hρ.ev e2 hv,g1]
      ·unfold zjt;simp only [e1,hx];rw [if_pos hc];exact g2
     ·cases h2
    ·cases h2
   ·cases h2
  ·cases h1
theorem zah {ρ':Operand → Option AV}{o:Oper}{v:AV}(he:exOp P ρ' h o=some (.val v)) (hk:K v h):∃ r h',zet P call o ρ' h=some (r,h') ∧ WpR K X h' r :=
 ⟨.ret v,h,by simp [zet,he],hk⟩
theorem zbl {ρ':Operand → Option AV}{o:Oper}{v:AV}{h':zaa}(he:exOp P ρ' h o=some (.valh v h')) (hk:K v h'):∃ r h',zet P call o ρ' h=some (r,h') ∧ WpR K X h' r :=
 ⟨.ret v,h',by simp [zet,he],hk⟩
theorem zni {ρ':Operand → Option AV}{o:Oper}{q:Option (AV × Option zaa)}(he:exOp P ρ' h o=ofRes q) (hk:WpA K h q):∃ r h',zet P call o ρ' h=some (r,h') ∧ WpR K X h' r:=by
 match q,hk with
 | some (v,none),hk=>exact zah he hk
 | some (v,some h'),hk=>exact zbl he hk
theorem zf5 {K':AV → Prop}{o:Option AV}(hw:zt8 K' o):∃ v,o=some v ∧ K' v:=by
 cases o
 ·exact hw.elim
 ·exact ⟨_,rfl,hw⟩
theorem zpw {d:TI}{cs:List AV}{o:Nat}:zkk (za9 d.desc) d.size cs o=zdw d cs o:=by
 unfold zkk zdw;cases za9 d.desc<;>rfl
theorem zq3 {op:BinOp}{k k':IntKind}{a b:Int}{K:AV → Prop}(hw:z3v op k a k' b K):∃ v,binA op (.int k a) (.int k' b)=some v ∧ K v:=by
 unfold z3v at hw
 unfold binA
 cases op<;>simp only at hw ⊢
 case shl=>obtain ⟨h1,z,h2,h3⟩:=hw;subst h2;rw [if_neg (by omega)];exact ⟨_,rfl,h3⟩
 case shr=>obtain ⟨h1,z,h2,h3⟩:=hw;subst h2;rw [if_neg (by omega)];exact ⟨_,rfl,h3⟩
 all_goals
  split at hw
  ·rename_i hk
   rw [if_neg (by simp [hk])]
   first
    | (obtain ⟨h1,z,h2,h3⟩:=hw;subst h2;rw [if_neg h1];exact ⟨_,rfl,h3⟩)
    | (obtain ⟨z,h2,h3⟩:=hw;subst h2;exact ⟨_,rfl,h3⟩)
    | exact ⟨_,rfl,hw⟩
    | exact hw.elim
  ·exact hw.elim
theorem zq1 {op:BinOp}{x y:List UInt8}{K:AV → Prop}(hw:z3u op x y K):∃ v,binA op (.str x) (.str y)=some v ∧ K v:=by
 unfold z3u at hw
 unfold binA
 cases op<;>simp only at hw ⊢
 case add=>rw [if_pos hw.1];exact ⟨_,rfl,hw.2⟩
 all_goals first | exact ⟨_,rfl,hw⟩ | exact hw.elim
theorem zpt (hρ:Agree ρ tm) {o:Oper}{ro:RO}(hr:zve P o=some ro) (hw:WpO P call ρ ro h K X):∃ r h',zet P call o (ev tm) h=some (r,h') ∧ WpR K X h' r:=by
 obtain ⟨dst,op,type,pos,aft,guard⟩:=o
 cases op
 all_goals unfold zve at hr;simp only at hr
 case move x =>
  obtain ⟨a,h1,rfl⟩:=Option.map_eq_some_iff.1 hr
  unfold WpO WMv at hw
  simp only at hw
  split at hw
  ·rename_i v hx;exact zah (by simp only [exOp];rw [hρ.ev h1 hx];rfl) hw
  ·exact hw.elim
 case assign x =>
  obtain ⟨a,h1,rfl⟩:=Option.map_eq_some_iff.1 hr
  unfold WpO WMv at hw
  simp only at hw
  split at hw
  ·rename_i v hx;exact zah (by simp only [exOp];rw [hρ.ev h1 hx];rfl) hw
  ·exact hw.elim
 case pick c a b =>
  split at hr
  ·rename_i c' a' b' h1 h2 h3
   cases hr
   unfold WpO WPick at hw
   simp only at hw
   split at hw
   ·rename_i t ht
    have hc:=hρ.ev h1 ht
    split at hw
    ·rename_i v hv
     split at hw
     ·rename_i u hu
      refine zah (v:=if t then v else u) (by simp only [exOp];rw [hc,hρ.ev h2 hv,hρ.ev h3 hu]) ?_
      cases t<;>exact hw
     ·obtain ⟨rfl,hw⟩:=hw
      refine zah (v:=v) (by simp only [exOp];rw [hc,hρ.ev h2 hv,zmb h3];simp) hw
    ·split at hw
     ·rename_i u hu
      obtain ⟨rfl,hw⟩:=hw
      refine zah (v:=u) (by simp only [exOp];rw [hc,hρ.ev h3 hu,zmb h2];simp) hw
     ·exact hw.elim
   ·exact hw.elim
  ·cases hr
 case alloc e =>
  obtain ⟨d,h1,rfl⟩:=Option.map_eq_some_iff.1 hr
  exact zbl (by simp only [exOp];rw [h1]) hw
 case box e x =>
  obtain ⟨a,h1,rfl⟩:=Option.map_eq_some_iff.1 hr
  unfold WpO WBox at hw
  simp only at hw
  split at hw
  ·rename_i v hv
   split at hw
   ·rename_i cs hcs
    exact zbl (by simp only [exOp];rw [hρ.ev h1 hv];simp only [hcs]) hw
   ·exact hw.elim
  ·exact hw.elim
 case build t ps =>
  split at hr
  ·rename_i d hd
   split at hr
   ·rename_i fs hfs
    split at hr
    ·rename_i pl hpl
     obtain ⟨qs,h1,rfl⟩:=Option.map_eq_some_iff.1 hr
     unfold WpO zx4 at hw
     simp only at hw
     split at hw
     ·rename_i cs hcs
      obtain ⟨l,g1,g2⟩:=hρ.fill h1 hcs
      exact zah (by simp only [exOp];rw [hd,g1];simp only [hfs,hpl,g2];rfl) hw
     ·exact hw.elim
    ·cases hr
   ·rename_i k e hfs
    split at hr
    ·rename_i de hde
     obtain ⟨qs,h1,rfl⟩:=Option.map_eq_some_iff.1 hr
     unfold WpO zx4 at hw
     simp only at hw
     split at hw
     ·rename_i cs hcs
      obtain ⟨l,g1,g2⟩:=hρ.fill h1 hcs
      exact zah (by simp only [exOp];rw [hd,g1];simp only [hfs,hde,g2];rfl) hw
     ·exact hw.elim
    ·cases hr
   ·cases hr
  ·cases hr
 case buildSlice t n ps =>
  split at hr
  ·rename_i e he
   split at hr
   ·rename_i d hd
    split at hr
    ·cases hr
    ·rename_i hc
     obtain ⟨qs,h1,rfl⟩:=Option.map_eq_some_iff.1 hr
     unfold WpO z1h at hw
     simp only at hw
     split at hw
     ·rename_i cs hcs
      obtain ⟨l,g1,g2⟩:=hρ.fill h1 hcs
      obtain ⟨hs,hw⟩:=hw
      simp only [not_or,Decidable.not_not] at hc
      obtain ⟨c1,c2,c3,c4⟩:=hc
      refine zah (by simp only [exOp];rw [he,g1];simp only [hd];rw [if_neg (by simp only [not_or,Decidable.not_not];exact ⟨c1,c2,c3⟩)];simp only [g2];rw [if_pos ⟨hs,by by_cases q:za9 d.desc=true;exact .inl q;exact .inr (Decidable.byContradiction fun q'=>c4 ⟨q,q'⟩)⟩]) ?_
      unfold zf9
      cases ha:za9 d.desc<;>rw [ha] at hw<;>exact hw
     ·exact hw.elim
   ·cases hr
  ·cases hr
 case load t p =>
  split at hr
  ·rename_i d a hd ha
   cases hr
   unfold WpO WLoad at hw
   simp only [zpw] at hw
   split at hw
   ·rename_i b ver o hp
    obtain ⟨el,cs,frz,hb,hw⟩:=hw
    obtain ⟨v,hv,hw⟩:=zf5 hw
    exact zah (by simp only [exOp];rw [hρ.ev ha hp];simp only [zbv,hb,hd,if_true,hv];rfl) hw
   ·rename_i cs o hp
    obtain ⟨v,hv,hw⟩:=zf5 hw
    exact zah (by simp only [exOp];rw [hρ.ev ha hp];simp only [zbv,hd,hv];rfl) hw
   ·exact hw.elim
  ·cases hr
 case store t p x =>
  split at hr
  ·rename_i d a b hd ha hb
   cases hr
   unfold WpO z1g at hw
   simp only at hw
   split at hw
   ·rename_i bb ver o hp
    split at hw
    ·rename_i v hv
     obtain ⟨el,cs,frz,xs,hb',h1,h2,h3,h4,hw⟩:=hw
     exact zbl (by simp only [exOp];rw [hρ.ev ha hp,hρ.ev hb hv];simp only [znh,h1,hd,hb'];rw [if_pos ⟨trivial,h2,h3,h4⟩];rfl) hw
    ·exact hw.elim
   ·exact hw.elim
  ·cases hr
 case nilCheck x =>
  obtain ⟨a,h1,rfl⟩:=Option.map_eq_some_iff.1 hr
  unfold WpO WNil at hw
  simp only at hw
  split at hw
  ·rename_i b v o hx;exact zah (by simp only [exOp];rw [hρ.ev h1 hx]) hw
  ·rename_i cs o hx;exact zah (by simp only [exOp];rw [hρ.ev h1 hx]) hw
  ·rename_i g y z hx;exact zah (by simp only [exOp];rw [hρ.ev h1 hx]) hw
  ·rename_i t v hx;exact zah (by simp only [exOp];rw [hρ.ev h1 hx]) hw
  ·exact hw.elim
 case binOp op t x y yt =>
  split at hr
  ·rename_i d a b hd ha hb
   split at hr
   ·cases hr
    unfold WpO WBin at hw
    simp only at hw
    split at hw
    ·rename_i k i hx
     split at hw
     ·rename_i k' j hy
      obtain ⟨v,h1,h2⟩:=zq3 hw
      exact zah (by simp only [exOp];rw [hρ.ev ha hx,hρ.ev hb hy];simp only [h1];rfl) h2
     ·exact hw.elim
    ·rename_i s hx
     split at hw
     ·rename_i s' hy
      obtain ⟨v,h1,h2⟩:=zq1 hw
      exact zah (by simp only [exOp];rw [hρ.ev ha hx,hρ.ev hb hy];simp only [h1];rfl) h2
     ·exact hw.elim
    ·exact hw.elim
   ·split at hr
    ·rename_i hpn
     obtain ⟨e,rfl,rfl⟩:=zsy hpn
     have hy:ev tm (.const (.pointer none))=some .nilp:=rfl
     cases op<;>simp only at hr<;>first
      | cases hr
      | skip
     all_goals
      unfold WpO z1j at hw
      simp only at hw
      split at hw
      ·rename_i hx
       exact zah (by simp only [exOp];rw [hρ.ev ha hx,hy];simp only [zd4,if_true,eqA,hd];rfl) hw
      ·rename_i hx
       exact zah (by simp only [exOp];rw [hρ.ev ha hx,hy];simp only [zd4,if_true,eqA,hd];rfl) hw
      ·exact hw.elim
    ·split at hr
     ·rename_i hpn
      obtain ⟨e,rfl,rfl⟩:=zte hpn
      have hy:ev tm (.const .nilIface)=some .nili:=rfl
      cases op<;>simp only at hr<;>first
       | cases hr
       | skip
      all_goals
       unfold WpO zx1 at hw
       simp only at hw
       split at hw
       ·rename_i hx
        exact zah (by simp only [exOp];rw [hρ.ev ha hx,hy];simp only [zd4,zfx,Bool.or_true,if_true,eqA,hd];rfl) hw
       ·rename_i hx
        exact zah (by simp only [exOp];rw [hρ.ev ha hx,hy];simp only [zd4,if_true,eqA,hd];rfl) hw
       ·exact hw.elim
     split at hr
     ·cases hr
     ·rename_i hg
      simp only [Bool.or_eq_true,not_or,Bool.not_eq_true] at hg
      cases op<;>simp only at hr<;>first
       | cases hr
       | skip
      all_goals
       unfold WpO WCmp at hw
       simp only at hw
       split at hw
       ·rename_i xs hx
        split at hw
        ·rename_i ys hy
         obtain ⟨r,h1,h2⟩:=hw
         exact zah (by simp only [exOp];rw [hρ.ev ha hx,hρ.ev hb hy];simp only [zd4,hg.2,Bool.not_false,if_true,h1];rfl) h2
        ·exact hw.elim
       ·rename_i xs hx
        split at hw
        ·rename_i ys hy
         obtain ⟨r,h1,h2⟩:=hw
         exact zah (by simp only [exOp];rw [hρ.ev ha hx,hρ.ev hb hy];simp only [zd4,if_true,h1];rfl) h2
        ·exact hw.elim
       ·rename_i hx
        split at hw
        ·rename_i hy
         obtain ⟨r,h1,h2⟩:=hw
         exact zah (by simp only [exOp];rw [hρ.ev ha hx,hρ.ev hb hy];simp only [zd4,if_true,h1];rfl) h2
        ·exact hw.elim
       ·exact hw.elim
  ·cases hr
 case unOp op t x =>
  obtain ⟨a,h1,rfl⟩:=Option.map_eq_some_iff.1 hr
  unfold WpO WUn at hw
  simp only at hw
  split at hw
  ·rename_i b hx
   cases op<;>simp only at hw<;>first | exact hw.elim | skip
   exact zah (by simp only [exOp];rw [hρ.ev h1 hx];rfl) hw
  ·rename_i k n hx
   cases op<;>simp only at hw<;>first | exact hw.elim | skip
   ·obtain ⟨z,h2,h3⟩:=hw;subst h2;exact zah (by simp only [exOp];rw [hρ.ev h1 hx];rfl) h3
   ·obtain ⟨z,h2,h3⟩:=hw;subst h2;exact zah (by simp only [exOp];rw [hρ.ev h1 hx];rfl) h3
  ·exact hw.elim
 case convert s d x =>
  split at hr
  ·rename_i k' k a hs hd ha
   cases hr
   unfold WpO z1f at hw
   simp only at hw
   split at hw
   ·rename_i k2 n hx
    obtain ⟨z,h2,h3⟩:=hw
    subst h2
    exact zah (by simp only [exOp];rw [hρ.ev ha hx];simp only [zhd,zkq,hs,hd];rfl) h3
   ·exact hw.elim
  ·rename_i a hs hd ha
   cases hr
   unfold WpO z1e at hw
   simp only at hw
   split at hw
   ·rename_i l hx
    exact zah (by simp only [exOp];rw [hρ.ev ha hx];simp only [zhd,zkq,hs,hd];rfl) hw
   ·exact hw.elim
  ·rename_i e a hs hd ha
   split at hr
   ·rename_i he
    cases hr
    unfold WpO zpf at hw
    simp only at hw
    split at hw
    ·rename_i l hx
     exact zbl (by simp only [exOp];rw [hρ.ev ha hx];simp only [zhd,zkq,hs,hd,he];rfl) hw
    ·exact hw.elim
   ·cases hr
  ·rename_i e a hs hd ha
   split at hr
   ·rename_i he
    cases hr
    unfold WpO zpg at hw
    simp only at hw
    split at hw
    ·rename_i sz xs c hx
     obtain ⟨cs,l,h1,h2,h3⟩:=hw
     exact zah (by simp only [exOp];rw [hρ.ev ha hx];simp only [zhd,zkq,hs,hd,he,lenA,h1,h2];rfl) h3
    ·rename_i sz b ver o n hx
     obtain ⟨cs,l,h1,h2,h3⟩:=hw
     exact zah (by simp only [exOp];rw [hρ.ev ha hx];simp only [zhd,zkq,hs,hd,he,lenA,h1,h2];rfl) h3
    ·exact hw.elim
   ·cases hr
  ·rename_i t a hs hd ha
   split at hr
   ·rename_i dd hdd
    split at hr
    ·cases hr
    ·rename_i hz
     cases hr
     unfold WpO WToU at hw
     simp only at hw
     split at hw
     ·rename_i hx
      exact zah (by simp only [exOp];rw [hρ.ev ha hx];simp only [zhd,hs,hd]) hw
     ·rename_i b ver o hx
      obtain ⟨el,cs,frz,g1,g2,g3⟩:=hw
      exact zah (by simp only [exOp];rw [hρ.ev ha hx];simp only [zhd,hs,hd,g1,hdd];rw [if_pos ⟨trivial,hz,g2⟩]) g3
     ·exact hw.elim
   ·cases hr
  ·rename_i u a hs hd ha
   split at hr
   ·rename_i hz
    cases hr
    obtain ⟨dd,hdd⟩:=Option.isSome_iff_exists.1 hz
    unfold WpO WFrU at hw
    simp only at hw
    split at hw
    ·rename_i hx
     exact zah (by simp only [exOp];rw [hρ.ev ha hx];simp only [zhd,hs,hd]) hw
    ·rename_i b ver o hx
     obtain ⟨el,cs,frz,g1,g2,g3⟩:=hw
     exact zah (by simp only [exOp];rw [hρ.ev ha hx];simp only [zhd,hs,hd,g1,hdd];rw [if_pos ⟨trivial,g2⟩]) g3
    ·exact hw.elim
   ·cases hr
  ·cases hr
 case typeAssert x b t ok =>
  split at hr
  ·cases hr
  ·rename_i d a hne hd ha
   cases hr
   have hne':∀ w,P.underlying t≠some (.interface w):=fun w e=>by rw [hd] at e;exact hne w (Option.some.inj e)
   unfold WpO WAsrt at hw
   simp only at hw
   have fails:∀ x',ev tm x=some x' → (x'=.nili ∨ ∃ t' v,x'=.ifc t' v ∧ t'≠t) → cond (ok&&(ti P t).isSome) (K (.tup [.undef,.bool false]) h) False → exOp P (ev tm) h ⟨dst,.typeAssert x b t ok,type,pos,aft,guard⟩=some (.val (.tup [.undef,.bool false])) ∧ K (.tup [.undef,.bool false]) h:=fun x' hx hc hk=>by
    cases ok with
    | false=>exact hk.elim
    | true =>
     cases hz:(ti P t).isSome with
     | false=>rw [hz] at hk;exact hk.elim
     | true =>
      rw [hz] at hk
      refine ⟨?_,hk⟩
      simp only [exOp]
      rw [hx]
      simp only [zj9]
      rcases hc with rfl | ⟨t',v,rfl,hc⟩
      ·split
       ·rename_i w e;exact (hne' _ e).elim
       ·simp [hz]
       ·rename_i e;rw [hd] at e;cases e
      ·split
       ·rename_i w e;exact (hne' _ e).elim
       ·simp [hz,hc]
       ·rename_i e;rw [hd] at e;cases e
   split at hw
   ·rename_i t' v hx
    cases hq:Nat.beq t' t with
    | true =>
     rw [hq] at hw
     have:t'=t:=Nat.eq_of_beq_eq_true hq
     subst this
     refine zah ?_ hw
     simp only [exOp]
     rw [hρ.ev ha hx]
     simp only [zj9]
     split
     ·rename_i w e;exact (hne' _ e).elim
     ·cases ok<;>simp
     ·rename_i e;rw [hd] at e;cases e
    | false =>
     rw [hq] at hw
     obtain ⟨g1,g2⟩:=fails _ (hρ.ev ha hx) (.inr ⟨_,_,rfl,Nat.ne_of_beq_eq_false hq⟩) hw
     exact zah g1 g2
   ·rename_i hx
    obtain ⟨g1,g2⟩:=fails _ (hρ.ev ha hx) (.inl rfl) hw
    exact zah g1 g2
   ·exact hw.elim
  ·cases hr
 case makeInterface t x =>
  split at hr
  ·cases hr
  ·rename_i d a hne hd ha
   cases hr
   unfold WpO z1i at hw
   simp only at hw
   split at hw
   ·rename_i v hx
    refine zah ?_ hw
    simp only [exOp]
    rw [hρ.ev ha hx]
    split
    ·rename_i e;rw [hd] at e;exact (hne _ (Option.some.inj e)).elim
    ·rename_i e1 e2;cases e2;rfl
    ·rename_i h1 h2;exact (h2 _ _ hd rfl).elim
   ·exact hw.elim
  ·cases hr
 case makeFunc f xs ys =>
  split at hr
  ·rename_i a b ha hb
   split at hr
   ·cases hr
   ·rename_i hf
    cases hr
    unfold WpO WMkFn at hw
    simp only at hw
    split at hw
    ·rename_i va hva
     split at hw
     ·rename_i vb hvb
      exact zah (by simp only [exOp];rw [hρ.map ha hva,hρ.map hb hvb];simp only [hf];rfl) hw
     ·exact hw.elim
    ·exact hw.elim
  ·cases hr
 case makeSlice t l c =>
  split at hr
  ·rename_i e a b he ha hb
   split at hr
   ·rename_i d hd
    split at hr
    ·rename_i hc
     cases hr
     unfold WpO WMkSl at hw
     simp only at hw
     split at hw
     ·rename_i k1 n1 hx
      split at hw
      ·rename_i k2 n2 hy
       obtain ⟨g1,g2,g3,g4⟩:=hw
       exact zbl (by simp only [exOp];rw [he,hρ.ev ha hx,hρ.ev hb hy];simp only [hd];rw [if_pos ⟨g1,g2,g3,hc.1,hc.2.1,hc.2.2⟩]) g4
      ·exact hw.elim
     ·exact hw.elim
    ·cases hr
   ·cases hr
  ·cases hr
 case slice t x lo hi mx =>
  split at hr
  ·rename_i a l u ht ha hl hu hm
   cases hr
   unfold WpO zxy at hw
   simp only at hw
   split at hw
   ·rename_i s hx
    split at hw
    ·rename_i l' ho
     split at hw
     ·rename_i u' hq
      obtain ⟨g1,g2,g3,t,rfl,g4⟩:=hw
      exact zah (by simp only [exOp];rw [hρ.ev ha hx,hρ.opt hl ho,hρ.opt hu hq,hρ.opt hm (l:=none) rfl,ht];simp only [zbm];rw [if_pos ⟨rfl,g1,g2,g3⟩];rfl) g4
     ·exact hw.elim
    ·exact hw.elim
   ·exact hw.elim
  ·rename_i e a l u m ht ha hl hu hm
   split at hr
   ·rename_i de hde
    cases hr
    unfold WpO zx0 at hw
    simp only at hw
    split at hw
    ·rename_i l' ho
     split at hw
     ·rename_i u' hq
      split at hw
      ·rename_i m' hr'
       split at hw
       ·rename_i sz' xs c0 hx
        obtain ⟨v,h1,h2⟩:=hw
        exact zah (by simp only [exOp];rw [hρ.ev ha hx,hρ.opt hl ho,hρ.opt hu hq,hρ.opt hm hr',ht];simp only [hde,h1];rfl) h2
       ·rename_i sz' b ver o n hx
        obtain ⟨v,h1,h2⟩:=hw
        exact zah (by simp only [exOp];rw [hρ.ev ha hx,hρ.opt hl ho,hρ.opt hu hq,hρ.opt hm hr',ht];simp only [hde,h1];rfl) h2
       ·exact hw.elim
      ·exact hw.elim
     ·exact hw.elim
    ·exact hw.elim
   ·cases hr
  ·rename_i n e a l u m ht ha hl hu hm
   split at hr
   ·rename_i de hde
    cases hr
    unfold WpO zxz at hw
    simp only at hw
    split at hw
    ·rename_i l' ho
     split at hw
     ·rename_i u' hq
      split at hw
      ·rename_i m' hr'
       split at hw
       ·rename_i b ver o hx
        obtain ⟨el,cs,frz,hb,hc,v,h1,h2⟩:=hw
        exact zah (by simp only [exOp];rw [hρ.ev ha hx,hρ.opt hl ho,hρ.opt hu hq,hρ.opt hm hr',ht];simp only [hde,hb];rw [if_pos ⟨trivial,hc.1,hc.2⟩,h1];rfl) h2
       ·exact hw.elim
      ·exact hw.elim
     ·exact hw.elim
    ·exact hw.elim
   ·cases hr
  ·cases hr
 case fieldAddr t x i =>
  split at hr
  ·rename_i fs a ht ha
   split at hr
   ·rename_i f hf
    split at hr
    ·rename_i d hd
     split at hr
     ·cases hr
     ·rename_i hz
      cases hr
      unfold WpO zlx at hw
      simp only at hw
      split at hw
      ·rename_i b ver o hx
       exact zah (by simp only [exOp];rw [ht,hρ.ev ha hx];simp only [hf,hd];rw [if_neg hz]) hw
      ·rename_i cs o hx
       exact zah (by simp only [exOp];rw [ht,hρ.ev ha hx];simp only [hf,hd];rw [if_neg hz]) hw
      ·exact hw.elim
    ·cases hr
   ·cases hr
  ·cases hr
 case field t x i =>
  split at hr
  ·rename_i fs a ht ha
   split at hr
   ·rename_i f hf
    split at hr
    ·rename_i d hd
     cases hr
     unfold WpO z1k at hw
     simp only [zpw] at hw
     split at hw
     ·rename_i cs hx
      obtain ⟨v,hv,hw⟩:=zf5 hw
      exact zah (by simp only [exOp];rw [ht,hρ.ev ha hx];simp only [hf,hd,hv];rfl) hw
     ·exact hw.elim
    ·cases hr
   ·cases hr
  ·cases hr
 case indexAddr t x ix =>
  split at hr
  ·rename_i e a b ht ha hb
   split at hr
   ·rename_i d hd
    cases hr
    unfold WpO zkg at hw
    simp only at hw
    split at hw
    ·rename_i sz' xs c0 hx
     split at hw
     ·rename_i k i hi
      obtain ⟨g1,g2,y,g3,cs,g4,g5⟩:=hw
      exact zah (by simp only [exOp];rw [ht,hρ.ev ha hx,hρ.ev hb hi];simp only [hd];rw [if_pos ⟨g1,g2⟩];simp only [g3,g4];rfl) g5
     ·exact hw.elim
    ·rename_i sz' b' ver o len hx
     split at hw
     ·rename_i k i hi
      obtain ⟨g1,g2,g3,g4⟩:=hw
      exact zah (by simp only [exOp];rw [ht,hρ.ev ha hx,hρ.ev hb hi];simp only [hd];rw [if_pos ⟨g1,g2,g3⟩]) g4
     ·exact hw.elim
    ·exact hw.elim
   ·cases hr
  ·rename_i n e a b ht ha hb
   split at hr
   ·rename_i d hd
    cases hr
    unfold WpO zkh at hw
    simp only at hw
    split at hw
    ·rename_i k i hi
     obtain ⟨g1,g2,hw⟩:=hw
     split at hw
     ·rename_i b' ver o hx
      exact zah (by simp only [exOp];rw [ht,hρ.ev ha hx,hρ.ev hb hi];simp only [hd];rw [if_pos ⟨g1,g2⟩]) hw
     ·rename_i cs o hx
      exact zah (by simp only [exOp];rw [ht,hρ.ev ha hx,hρ.ev hb hi];simp only [hd];rw [if_pos ⟨g1,g2⟩]) hw
     ·exact hw.elim
    ·exact hw.elim
   ·cases hr
  ·cases hr
 case index t x ix =>
  split at hr
  ·rename_i a b ht ha hb
   cases hr
   unfold WpO zx2 at hw
   simp only at hw
   split at hw
   ·rename_i s hx
    split at hw
    ·rename_i k i hi
     obtain ⟨g1,b',g2,g3⟩:=hw
     exact zah (by simp only [exOp];rw [ht,hρ.ev ha hx,hρ.ev hb hi];simp only;rw [if_pos g1];simp only [g2]) g3
    ·exact hw.elim
   ·exact hw.elim
  ·rename_i n e a b ht ha hb
   split at hr
   ·rename_i d hd
    cases hr
    unfold WpO zx3 at hw
    simp only [zpw] at hw
    split at hw
    ·rename_i cs hx
     split at hw
     ·rename_i k i hi
      obtain ⟨g1,g2,v,g3,g4⟩:=hw
      exact zah (by simp only [exOp];rw [ht,hρ.ev ha hx,hρ.ev hb hi];simp only;rw [if_pos ⟨g1,g2⟩];simp only [hd,g3];rfl) g4
     ·exact hw.elim
    ·exact hw.elim
   ·cases hr
  ·cases hr
 case sliceToArrayPointer t x =>
  split at hr
  ·rename_i n e a ht ha
   cases hr
   unfold WpO WS2A at hw
   simp only at hw
   split at hw
   ·rename_i sz b ver o len hx
    obtain ⟨g1,g2⟩:=hw
    exact zah (by simp only [exOp];rw [ht,hρ.ev ha hx];simp only;rw [if_pos g1]) g2
   ·exact hw.elim
  ·cases hr
 case makeMap t r =>
  split at hr
  ·rename_i kt e ht
   cases hr
   unfold WpO at hw
   exact zbl (by simp only [exOp];rw [ht]) hw
  ·cases hr
 case lookup t x k ok =>
  split at hr
  ·rename_i a b ha hb
   cases hr
   unfold WpO WLook at hw
   simp only at hw
   split at hw
   ·rename_i a' hx
    split at hw
    ·rename_i b' hy
     obtain ⟨v,g1,g2⟩:=hw
     exact zah (by simp only [exOp];rw [hρ.ev ha hx,hρ.ev hb hy];simp only [g1];rfl) g2
    ·exact hw.elim
   ·exact hw.elim
  ·cases hr
 case mapUpdate t x k v =>
  split at hr
  ·rename_i a b c ha hb hc
   cases hr
   unfold WpO WUpd at hw
   simp only at hw
   split at hw
   ·rename_i a' hx
    split at hw
    ·rename_i b' hy
     split at hw
     ·rename_i c' hz
      obtain ⟨h',g1,g2⟩:=hw
      exact zbl (by simp only [exOp];rw [hρ.ev ha hx,hρ.ev hb hy,hρ.ev hc hz];simp only [g1];rfl) g2
     ·exact hw.elim
    ·exact hw.elim
   ·exact hw.elim
  ·cases hr
 case insert t x k v =>
  split at hr
  ·rename_i a b c ha hb hc
   cases hr
   unfold WpO WUpd at hw
   simp only at hw
   split at hw
   ·rename_i a' hx
    split at hw
    ·rename_i b' hy
     split at hw
     ·rename_i c' hz
      obtain ⟨h',g1,g2⟩:=hw
      exact zbl (by simp only [exOp];rw [hρ.ev ha hx,hρ.ev hb hy,hρ.ev hc hz];simp only [g1];rfl) g2
     ·exact hw.elim
    ·exact hw.elim
   ·exact hw.elim
  ·cases hr
 case extract x i =>
  obtain ⟨a,h1,rfl⟩:=Option.map_eq_some_iff.1 hr
  unfold WpO zsh at hw
  simp only at hw
  split at hw
  ·rename_i vs hx
   obtain ⟨v,hv,hw⟩:=zf5 hw
   exact zah (by simp only [exOp];rw [hρ.ev h1 hx];simp only [hv];rfl) hw
  ·exact hw.elim
 case call c =>
  obtain ⟨callee,args,ats⟩:=c
  simp only at hr
  split at hr
  ·split at hr
   ·rename_i t x hts hxs
    split at hr
    ·rename_i a ht ha
     cases hr
     unfold WpO WLenS at hw
     simp only at hw
     split at hw
     ·rename_i s hx
      exact zah (by simp only [exOp,hxs,zb9];rw [hρ.ev ha hx];simp only [hts,zav,ht]) hw
     ·exact hw.elim
    ·rename_i n e a ht ha
     cases hr
     exact zah (by simp only [exOp,hxs,zb9];rw [zmb ha];simp only [hts,zav,ht]) hw
    ·rename_i e a ht ha
     cases hr
     unfold WpO WLenL at hw
     simp only at hw
     split at hw
     ·rename_i sz xs c hx
      exact zah (by simp only [exOp,hxs,zb9];rw [hρ.ev ha hx];simp only [hts,zav,ht]) hw
     ·rename_i sz b ver o len hx
      exact zah (by simp only [exOp,hxs,zb9];rw [hρ.ev ha hx];simp only [hts,zav,ht]) hw
     ·exact hw.elim
    ·cases hr
   ·cases hr
  ·split at hr
   ·rename_i t t2 s x hts hxs
    split at hr
    ·cases hr
    ·rename_i e d2 a b hne ht ht2 ha hb
     split at hr
     ·rename_i d hd
      split at hr
      ·cases hr
      ·rename_i hc
       cases hr
       unfold WpO WApp at hw
       simp only at hw
       split at hw
       ·rename_i va hva
        split at hw
        ·rename_i vb hvb
         obtain ⟨r,g1,g2⟩:=hw
         subst g1
         have e1:zav P h .append ats.toList [va,vb]=ofRes (appR h e d.size va vb):=by
          rw [hts]
          have e2:([t,t2]:List TypeId).getD 1 0=t2:=rfl
          simp only [zav,ht,e2,ht2]
          have e3:zkb P h e va vb=appR h e d.size va vb:=by
           unfold zkb appR
           rw [hd]
           cases hl:lenA vb with
           | none=>rfl
           | some n =>
            simp only
            rw [if_neg hc]
            cases zax h d.size n vb with
            | none=>rfl
            | some ys=>cases va<;>first | rfl | (rename_i c;cases c<;>rfl)
          rw [e3]
         refine zni (q:=appR h e d.size va vb) ?_ g2
         simp only [exOp,hxs,zb9]
         rw [hρ.ev ha hva,hρ.ev hb hvb]
         simp only [e1]
         cases hq:appR h e d.size va vb with
         | none=>rw [hq] at g2;exact g2.elim
         | some q=>obtain ⟨v,o⟩:=q;cases o<;>rfl
        ·exact hw.elim
       ·exact hw.elim
     ·cases hr
    ·cases hr
   ·cases hr
  ·split at hr
   ·rename_i t ts s x hts hxs
    split at hr
    ·rename_i e a b ht ha hb
     split at hr
     ·rename_i d hd
      cases hr
      unfold WpO WCpy at hw
      simp only at hw
      split at hw
      ·rename_i va hva
       split at hw
       ·rename_i vb hvb
        obtain ⟨r,g1,g2⟩:=hw
        subst g1
        have e3:zxe P h e va vb=cpyR h d.size va vb:=by
         unfold zxe cpyR
         rw [hd]
         simp only
         cases ziz va<;>cases lenA vb<;>rfl
        refine zni (q:=cpyR h d.size va vb) ?_ g2
        simp only [exOp,hxs,zb9]
        rw [hρ.ev ha hva,hρ.ev hb hvb]
        simp only [hts,zav,ht,e3]
        cases hq:cpyR h d.size va vb with
        | none=>rw [hq] at g2;exact g2.elim
        | some q=>obtain ⟨v,o⟩:=q;cases o<;>rfl
       ·exact hw.elim
      ·exact hw.elim
     ·cases hr
    ·cases hr
   ·cases hr
  ·split at hr
   ·rename_i x hxs
    obtain ⟨b,h1,rfl⟩:=Option.map_eq_some_iff.1 hr
    unfold WpO z1d at hw
    simp only at hw
    split at hw
    ·rename_i hx
     exact zah (by simp only [exOp,hxs,zb9];rw [hρ.ev h1 hx];rfl) hw
    ·rename_i sz b' ver o len hx
     obtain ⟨g1,g2⟩:=hw
     exact zah (by simp only [exOp,hxs,zb9];rw [hρ.ev h1 hx];simp only [zav,zdt];rw [if_pos g1]) g2
    ·exact hw.elim
   ·cases hr
  ·split at hr
   ·rename_i x y hxs
    split at hr
    ·rename_i a b ha hb
     cases hr
     unfold WpO WMM at hw
     simp only at hw
     split at hw
     ·rename_i k i hx
      split at hw
      ·rename_i k' j hy
       obtain ⟨z,rfl,hw⟩:=hw
       exact zah (by simp only [exOp,hxs,zb9];rw [hρ.ev ha hx,hρ.ev hb hy];rfl) hw
      ·exact hw.elim
     ·exact hw.elim
    ·cases hr
   ·rename_i x y z hxs
    split at hr
    ·rename_i a b c ha hb hc
     cases hr
     unfold WpO WMM3 at hw
     simp only at hw
     split at hw
     ·rename_i k i hx
      split at hw
      ·rename_i k' j hy
       split at hw
       ·rename_i k'' l hz
        obtain ⟨z,rfl,hw⟩:=hw
        exact zah (by simp only [exOp,hxs,zb9];rw [hρ.ev ha hx,hρ.ev hb hy,hρ.ev hc hz];rfl) hw
       ·exact hw.elim
      ·exact hw.elim
     ·exact hw.elim
    ·cases hr
   ·cases hr
  ·split at hr
   ·rename_i x y hxs
    split at hr
    ·rename_i a b ha hb
     cases hr
     unfold WpO WMM at hw
     simp only at hw
     split at hw
     ·rename_i k i hx
      split at hw
      ·rename_i k' j hy
       obtain ⟨z,rfl,hw⟩:=hw
       exact zah (by simp only [exOp,hxs,zb9];rw [hρ.ev ha hx,hρ.ev hb hy];rfl) hw
      ·exact hw.elim
     ·exact hw.elim
    ·cases hr
   ·rename_i x y z hxs
    split at hr
    ·rename_i a b c ha hb hc
     cases hr
     unfold WpO WMM3 at hw
     simp only at hw
     split at hw
     ·rename_i k i hx
      split at hw
      ·rename_i k' j hy
       split at hw
       ·rename_i k'' l hz
        obtain ⟨z,rfl,hw⟩:=hw
        exact zah (by simp only [exOp,hxs,zb9];rw [hρ.ev ha hx,hρ.ev hb hy,hρ.ev hc hz];rfl) hw
       ·exact hw.elim
      ·exact hw.elim
     ·exact hw.elim
    ·cases hr
   ·cases hr
  ·split at hr
   ·rename_i t x hts hxs
    split at hr
    ·rename_i e a ht ha
     cases hr
     unfold WpO WCapL at hw
     simp only at hw
     split at hw
     ·rename_i sz xs hx
      obtain ⟨k,rfl,hw⟩:=hw
      exact zah (by simp only [exOp,hxs,zb9];rw [hρ.ev ha hx];simp only [hts,zav,zdt,ht]) hw
     ·exact hw.elim
    ·cases hr
   ·cases hr
  ·split at hr
   ·rename_i pt t2 p n hts hxs
    split at hr
    ·rename_i e a b ht ha hb
     split at hr
     ·rename_i d hd
      split at hr
      ·rename_i hz
       cases hr
       unfold WpO WUStr at hw
       simp only at hw
       split at hw
       ·rename_i k hn
        split at hw
        ·rename_i hp
         obtain ⟨rfl,g2⟩:=hw
         exact zah (by simp only [exOp,hxs,zb9];rw [hρ.ev ha hp,hρ.ev hb hn];simp only [hts,zav,zdt,if_true]) g2
        ·rename_i bb ver hp
         obtain ⟨g0,cs,frz,l,g1,g2,g3,g4,g5⟩:=hw
         exact zbl (by simp only [exOp,hxs,zb9];rw [hρ.ev ha hp,hρ.ev hb hn];simp only [hts,zav,zdt];rw [if_neg (show ¬ k=0 by omega)];simp only [ht,g1,hd];rw [if_pos ⟨trivial,trivial,hz,g0,g2.1,g2.2,g3⟩,g4];rfl) g5
        ·exact hw.elim
       ·exact hw.elim
      ·cases hr
     ·cases hr
    ·cases hr
   ·cases hr
  ·rename_i g
   split at hr
   ·rename_i as has
    split at hr
    ·rename_i hf
     cases hr
     unfold WpO WCall at hw
     simp only at hw
     split at hw
     ·rename_i vs hvs
      obtain ⟨r,h',g1,g2⟩:=hw
      refine ⟨r,h',?_,g2⟩
      unfold zet
      simp only [exOp]
      rw [hρ.map has hvs]
      simp only [ev,hf,if_true,List.nil_append,List.append_nil]
      exact g1
     ·exact hw.elim
    ·rename_i hf
     split at hr
     ·rename_i hg
      split at hr
      ·rename_i a
       cases hr
       unfold WpO WMv at hw
       simp only at hw
       split at hw
       ·rename_i v hv
        refine zah ?_ hw
        simp only [exOp]
        rw [hρ.map has (show mapX ρ [a]=some [v] by rw [zjd,hv,zmm])]
        simp only [ev,List.nil_append,List.append_nil]
        rw [if_neg hf]
        exact zp6 hg
       ·exact hw.elim
      ·cases hr
     ·split at hr
      ·rename_i e a hg
       cases hr
       unfold WpO WMkNZ at hw
       simp only at hw
       split at hw
       ·rename_i k hv
        obtain ⟨h0,h1,hw⟩:=hw
        refine zbl ?_ hw
        simp only [exOp]
        rw [hρ.map has (show mapX ρ [a]=some [.int .i64 k] by rw [zjd,hv,zmm])]
        simp only [ev,List.nil_append,List.append_nil]
        rw [if_neg hf]
        exact ztc hg h0 h1
       ·exact hw.elim
      ·cases hr
   ·cases hr
  ·rename_i t
   split at hr
   ·rename_i as has
    cases hr
    unfold WpO z1l at hw
    simp only at hw
    split at hw
    ·rename_i g a b hx
     split at hw
     ·rename_i vs hvs
      obtain ⟨hf,r,h',g1,g2⟩:=hw
      refine ⟨r,h',?_,g2⟩
      unfold zet
      simp only [exOp]
      rw [hρ.map has hvs,hρ.ev (x:=.tmp t) rfl hx]
      simp only [hf,if_true]
      exact g1
     ·exact hw.elim
    ·rename_i b hx
     split at hw
     ·rename_i vs hvs
      obtain ⟨r,h',g1,g2⟩:=hw
      refine ⟨r,h',?_,g2⟩
      unfold zet
      simp only [exOp]
      rw [hρ.map has hvs,hρ.ev (x:=.tmp t) rfl hx]
      exact g1
     ·exact hw.elim
    ·exact hw.elim
   ·cases hr
  ·rename_i x name
   split at hr
   ·rename_i a as ha has
    cases hr
    unfold WpO WInv at hw
    simp only at hw
    split at hw
    ·rename_i t v hx
     split at hw
     ·rename_i vs hvs
      obtain ⟨g,g1,g2,r,h',g3,g4⟩:=hw
      refine ⟨r,h',?_,g4⟩
      unfold zet
      simp only [exOp]
      rw [hρ.map has hvs,hρ.ev ha hx]
      simp only [g1,g2,if_true]
      exact g3
     ·exact hw.elim
    ·exact hw.elim
   ·cases hr
  ·cases hr
 all_goals cases hr
theorem zpd (hρ:Agree ρ tm) {o:Oper}(hw:WpO P call ρ (resO P o) h K X):∃ r h',zet P call o (ev tm) h=some (r,h') ∧ WpR K X h' r:=by
 unfold resO at hw
 cases hr:zve P o with
 | none =>
  rw [hr] at hw
  obtain ⟨hk,r,h',h1,h2⟩:=hw
  refine ⟨r,h',?_,h2⟩
  unfold zet at h1 ⊢
  rw [zhy (ρ':=evR ρ)]
  ·exact h1
  ·intro x hx
   have:=List.all_eq_true.1 hk x (Array.mem_toList_iff.2 hx)
   unfold ztb at this
   unfold evR
   cases hx':resX x with
   | none =>
    cases x with
    | tmp t=>simp [resX] at hx'
    | const v=>simp [resX] at hx';exact hx'
    | global g=>rfl
    | func f=>simp [resX] at hx'
   | some a =>
    rw [hx'] at this
    simp only at this ⊢
    cases ha:ρ a with
    | none=>rw [ha] at this;cases this
    | some v=>exact hρ.ev hx' ha
 | some ro=>rw [hr] at hw;exact zpt hρ hr hw
end
end Go.Abs
