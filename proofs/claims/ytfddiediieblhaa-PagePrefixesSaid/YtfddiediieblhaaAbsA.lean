/- A small machine that works on data: its values, its memory, its operations. Definitions alone. -/
import Derived.Test.YtfddiediieblhaaAbsTr
set_option linter.unusedVariables false
namespace Go.Abs
/-- A block of the machine's own. -/
inductive AB where
  | dead
  | cells (ver : Nat) (el : Option TypeId) (cs : List AV) (frz : Nat)
  | map (es : List (AV × AV))
  | dfd
  | loop (busy : Bool) (tms : Tm) (ps : Array Tmp) (asg body : Code) (db : Nat)
  deriving Inhabited

abbrev AHeap := List AB

/-- A scalar that is known. -/
def AV.scal : AV → Bool
  | .undef | .agg _ | .tup _ => false
  | _ => true

def ofV1 : Value → Option AV
  | .bool b => some (.bool b)
  | .int k n => some (.int k n)
  | .float k n => some (.flt k n)
  | .string s => some (.str s.data.toList)
  | .pointer none => some .nilp
  | .slice none 0 0 => some (.lst 0 [] true)
  | .map none => some .mapn
  | .nilFunc => some .nilf
  | .nilIface => some .nili
  | _ => none

def ofVs : List Value → Option (List AV)
  | [] => some []
  | v :: vs => match ofV1 v, ofVs vs with
    | some x, some xs => some (x :: xs)
    | _, _ => none

def ofV : Value → Option AV
  | .agg cs => (ofVs cs.toList).map .agg
  | v => ofV1 v

/-- What is used of a type. -/
structure TI where
  desc : TypeDesc
  size : Nat
  bytes : Nat
  zero : List AV

def ti (P : Program) (t : TypeId) : Option TI :=
  match P.info? t, P.underlying t with
  | some i, some d => match i.zero with
    | some z => match ofVs z.cells.toList with
      | some zs => some ⟨d, i.size, i.bytes, zs⟩
      | none => none
    | none => none
  | _, _ => none

def isAggD : TypeDesc → Bool
  | .struct _ | .array _ _ => true
  | _ => false

/-- The cells of a value that is known. -/
def AV.cells? : AV → Option (List AV)
  | .agg cs => if cs.all AV.scal then some cs else none
  | .undef | .tup _ => none
  | v => some [v]

/-- Part of a row of cells, as a value of a type. -/
def partA (d : TI) (cs : List AV) (off : Nat) : Option AV :=
  if isAggD d.desc then (if off + d.size ≤ cs.length then some (.agg ((cs.drop off).take d.size)) else none)
  else cs[off]?

def putAt (cs : List AV) (o : Nat) (xs : List AV) : List AV := cs.take o ++ xs ++ cs.drop (o + xs.length)

def loadA (P : Program) (h : AHeap) (t : TypeId) : AV → Option AV
  | .ptr b ver o => match h[b]?, ti P t with
    | some (.cells ver' _ cs _), some d => if ver' = ver then partA d cs o else none
    | _, _ => none
  | .pin cs o => match ti P t with
    | some d => partA d cs o
    | none => none
  | _ => none

def storeA (P : Program) (h : AHeap) (t : TypeId) (p v : AV) : Option AHeap :=
  match p, v.cells?, ti P t with
  | .ptr b ver o, some xs, some d => match h[b]? with
    | some (.cells ver' el cs frz) =>
      if ver' = ver ∧ xs.length = d.size ∧ o + xs.length ≤ cs.length ∧ frz ≤ o then some (h.set b (.cells ver el (putAt cs o xs) frz)) else none
    | _ => none
  | _, _, _ => none

/-- Parts laid into cells. -/
def fillA (place : Nat → Option (Nat × Nat)) (cs : List AV) : List (Nat × AV) → Option (List AV)
  | [] => some cs
  | (i, v) :: rest => match place i, v.cells? with
    | some (off, size), some xs => if xs.length = size ∧ off + xs.length ≤ cs.length then fillA place (putAt cs off xs) rest else none
    | _, _ => none

def chunk (sz : Nat) : Nat → List AV → List (List AV)
  | 0, _ => []
  | n + 1, cs => cs.take sz :: chunk sz n (cs.drop sz)

/-- A row of cells as elements of a type. -/
def elemsA (d : TI) (n : Nat) (cs : List AV) : List AV :=
  if isAggD d.desc then (chunk d.size n cs).map .agg else cs

def binA (op : BinOp) : AV → AV → Option AV
  | .int k a, .int k' b =>
    match op with
    | .shl => if b < 0 then none else some (.int k (k.wrap (a * 2 ^ (min b.toNat k.bits))))
    | .shr => if b < 0 then none else some (.int k (a.fdiv (2 ^ (min b.toNat k.bits))))
    | _ => if k ≠ k' then none else
      match op with
      | .add => some (.int k (k.wrap (a + b)))
      | .sub => some (.int k (k.wrap (a - b)))
      | .mul => some (.int k (k.wrap (a * b)))
      | .quo => if b = 0 then none else some (.int k (k.wrap (a.tdiv b)))
      | .rem => if b = 0 then none else some (.int k (a.tmod b))
      | .and => some (.int k (k.wrap (BitVec.ofInt k.bits a &&& BitVec.ofInt k.bits b).toNat))
      | .or => some (.int k (k.wrap (BitVec.ofInt k.bits a ||| BitVec.ofInt k.bits b).toNat))
      | .xor => some (.int k (k.wrap (BitVec.ofInt k.bits a ^^^ BitVec.ofInt k.bits b).toNat))
      | .andNot => some (.int k (k.wrap (BitVec.ofInt k.bits a &&& ~~~BitVec.ofInt k.bits b).toNat))
      | .eql => some (.bool (a == b))
      | .neq => some (.bool (a != b))
      | .lss => some (.bool (decide (a < b)))
      | .leq => some (.bool (decide (a ≤ b)))
      | .gtr => some (.bool (decide (b < a)))
      | .geq => some (.bool (decide (b ≤ a)))
      | _ => none
  | .str x, .str y =>
    match op with
    | .add => if x.length + y.length ≤ 4611686018427387904 then some (.str (x ++ y)) else none
    | .eql => some (.bool (x == y))
    | .neq => some (.bool (!(x == y)))
    | .lss => some (.bool (Op.bytesLess x y))
    | .leq => some (.bool (Op.bytesLess x y || x == y))
    | .gtr => some (.bool (!(Op.bytesLess x y || x == y)))
    | .geq => some (.bool (!Op.bytesLess x y))
    | _ => none
  | _, _ => none

def unA (op : UnOp) : AV → Option AV
  | .bool b => match op with
    | .not => some (.bool (!b))
    | _ => none
  | .int k n => match op with
    | .neg => some (.int k (k.wrap (0 - n)))
    | .xor => some (.int k (k.wrap (BitVec.ofInt k.bits (if k.signed then -1 else k.max) ^^^ BitVec.ofInt k.bits n).toNat))
    | _ => none
  | _ => none

/-- '==' of values of a type (nesting at most n): all but functions and slices. -/
def allEq (f : Nat → AV → AV → Option Bool) : List (Nat × AV × AV) → Option Bool
  | [] => some true
  | (t, x, y) :: r => match f t x y with
    | some true => allEq f r
    | some false => some false
    | none => none

def partsOf (P : Program) (xs ys : List AV) : List Field → Option (List (Nat × AV × AV))
  | [] => some []
  | f :: fs => if f.name = "_" then none else match ti P f.type, partsOf P xs ys fs with
    | some d, some r => match partA d xs f.offset, partA d ys f.offset with
      | some x, some y => some ((f.type, x, y) :: r)
      | _, _ => none
    | _, _ => none

def itemsOf (d : TI) (e : TypeId) (xs ys : List AV) : List Nat → Option (List (Nat × AV × AV))
  | [] => some []
  | i :: is => match partA d xs (i * d.size), partA d ys (i * d.size), itemsOf d e xs ys is with
    | some x, some y, some r => some ((e, x, y) :: r)
    | _, _, _ => none

def zipE (e : TypeId) : List AV → List AV → List (Nat × AV × AV)
  | x :: xs, y :: ys => (e, x, y) :: zipE e xs ys
  | _, _ => []

/-- The items of arrays, at once where they are scalars. -/
def itemsF (d : TI) (e : TypeId) (xs ys : List AV) (k : Nat) : Option (List (Nat × AV × AV)) :=
  if isAggD d.desc = false ∧ d.size = 1 ∧ xs.length = k ∧ ys.length = k then some (zipE e xs ys) else itemsOf d e xs ys (List.range k)

def eqA (P : Program) : Nat → TypeId → AV → AV → Option Bool
  | 0, _, _, _ => none
  | n + 1, t, x, y => match P.underlying t with
    | none => none
    | some d => match d, x, y with
      | .bool, .bool a, .bool b => some (a == b)
      | .int _, .int k a, .int k' b => if k = k' then some (a == b) else none
      | .string, .str a, .str b => some (a == b)
      | .pointer _, .nilp, .nilp => some true
      | .pointer _, .nilp, .ptr _ _ _ => some false
      | .pointer _, .ptr _ _ _, .nilp => some false
      | .pointer e, .ptr b v o, .ptr b' v' o' => if b = b' ∧ v = v' ∧ o = o' ∧ (ti P e).isSome then some true else none
      | .interface _, .nili, .nili => some true
      | .interface _, .nili, .ifc _ _ => some false
      | .interface _, .ifc _ _, .nili => some false
      | .struct fs, .agg xs, .agg ys => if P.stoodInHeld t then none else match partsOf P xs ys fs.toList with
        | some l => allEq (eqA P n) l
        | none => none
      | .array k e, .agg xs, .agg ys => match ti P e with
        | some d => match itemsF d e xs ys k with
          | some l => allEq (eqA P n) l
          | none => none
        | none => none
      | _, _, _ => none

def isConstO : Operand → Bool
  | .const _ => true
  | _ => false

/-- What the program's '==' asks ahead of itself. -/
def guardA (P : Program) (t : TypeId) (x y : Operand) : AV → AV → Bool
  | .nili, .nili => isConstO x || isConstO y
  | .agg _, .agg _ => !P.eqGuardType P.depth t
  | .undef, _ => false
  | _, .undef => false
  | _, _ => true

inductive Cls where
  | pure | rd | grow | mod
  deriving DecidableEq

/-- What an operation comes to. -/
inductive R where
  | val (v : AV)
  | valh (v : AV) (h : AHeap)
  | call (f : FuncId) (args : List AV)
  | pan (v : AV)

def intA : AV → Option Int
  | .int _ n => some n
  | _ => none

/-- The elements from l on to h. -/
def sliceA (sz : Nat) (x : AV) (low high mx : Option Int) : Option AV :=
  let l := low.getD 0
  match x with
  | .str s => let hi := high.getD s.length
    if mx.isNone ∧ 0 ≤ l ∧ l ≤ hi ∧ hi ≤ s.length then some (.str ((s.take hi.toNat).drop l.toNat)) else none
  | .lst sz' xs c0 =>
    let hi := high.getD xs.length
    match mx with
    | some m => if high.isSome ∧ 0 ≤ l ∧ l ≤ hi ∧ hi ≤ m ∧ m ≤ xs.length ∧ (sz' = sz ∨ xs.length = 0) then some (.lst sz ((xs.take hi.toNat).drop l.toNat) (sz != 0 && m == hi)) else none
    | none => if 0 ≤ l ∧ l ≤ hi ∧ hi ≤ xs.length ∧ (sz' = sz ∨ xs.length = 0) then some (.lst sz ((xs.take hi.toNat).drop l.toNat) (sz != 0 && (c0 && hi == xs.length))) else none
  | .sl sz' b ver o len =>
    let hi := high.getD len
    match mx with
    | some m => if high.isSome ∧ 0 ≤ l ∧ l ≤ hi ∧ hi ≤ m ∧ m ≤ len ∧ sz' = sz then
        (if m = l then some (.lst sz [] (sz != 0)) else some (.sl sz b ver (o + l.toNat * sz) (hi - l).toNat)) else none
    | none => if 0 ≤ l ∧ l ≤ hi ∧ hi ≤ len ∧ sz' = sz then
        (if l = len then some (.lst sz [] false) else some (.sl sz b ver (o + l.toNat * sz) (hi - l).toNat)) else none
  | _ => none

/-- The cells of the first n elements of a slice or string. -/
def firstA (h : AHeap) (sz n : Nat) : AV → Option (List AV)
  | .str s => if sz = 1 then some ((s.take n).map fun b => .int .u8 b.toNat) else none
  | .lst sz' xs _ => if n ≤ xs.length ∧ (sz' = sz ∨ n = 0) then
      (let l := (xs.take n).map AV.cells?
       if l.all (fun o => match o with | some c => c.length == sz | none => false) then some (l.flatMap fun o => o.getD []) else none) else none
  | .sl sz' b ver o len => if n ≤ len ∧ sz' = sz then match h[b]? with
      | some (.cells ver' _ cs _) => if ver' = ver ∧ o + n * sz ≤ cs.length then some ((cs.drop o).take (n * sz)) else none
      | _ => none else none
  | _ => none

def lenA : AV → Option Nat
  | .str s => some s.length
  | .lst _ xs _ => some xs.length
  | .sl _ _ _ _ len => some len
  | _ => none

/-- The length of what is a slice. -/
def slLen : AV → Option Nat
  | .lst _ xs _ => some xs.length
  | .sl _ _ _ _ len => some len
  | _ => none

def appendA (P : Program) (h : AHeap) (elem : TypeId) (s x : AV) : Option (AV × Option AHeap) :=
  match ti P elem, lenA x with
  | some d, some n =>
    if d.bytes > 65536 ∨ d.size = 0 ∨ d.zero.length ≠ d.size then none else
    match firstA h d.size n x with
    | none => none
    | some ys =>
      if !ys.all AV.scal then none else
      match s with
      | .lst sz xs true => if n = 0 then some (.lst sz xs true, none) else match firstA h d.size xs.length (.lst sz xs true) with
        | some old => if xs.length + n ≤ 1073741824 ∧ old.all AV.scal then some (.sl d.size h.length 0 0 (xs.length + n), some (h ++ [.cells 0 (some elem) (old ++ ys) 0])) else none
        | none => none
      | .sl sz b ver o len => match h[b]? with
        | some (.cells ver' el cs frz) =>
          if (el = some elem ∨ el = none) ∧ sz = d.size ∧ ver' = ver ∧ o = 0 ∧ len * sz = cs.length ∧ cs.all AV.scal ∧ len + n ≤ 1073741824 ∧ frz ≤ cs.length then
            (if n = 0 then some (s, none) else some (.sl sz b (ver + 1) 0 (len + n), some (h.set b (.cells (ver + 1) el (cs ++ ys) frz))))
          else none
        | _ => none
      | _ => none
  | _, _ => none

def copyA (P : Program) (h : AHeap) (elem : TypeId) (s x : AV) : Option (AV × Option AHeap) :=
  match ti P elem, slLen s, lenA x with
  | some d, some a, some b =>
    let n := min b a
    match firstA h d.size n x with
    | none => none
    | some ys =>
      if n = 0 then some (.int .i64 0, none) else
      match s with
      | .sl sz b ver o _ => match h[b]? with
        | some (.cells ver' el cs frz) => if sz = d.size ∧ ver' = ver ∧ frz ≤ o ∧ o + ys.length ≤ cs.length ∧ ys.all AV.scal then
            some (.int .i64 n, some (h.set b (.cells ver el (putAt cs o ys) frz))) else none
        | _ => none
      | _ => none
  | _, _, _ => none

def toBytes : List AV → Option (List UInt8)
  | [] => some []
  | .int .u8 n :: r => (toBytes r).map (UInt8.ofNat n.toNat :: ·)
  | _ => none

def convA (P : Program) (h : AHeap) (src dst : TypeId) (x : AV) : Option (AV × Option AHeap) :=
  match P.underlying src, P.underlying dst with
  | some s, some d => match s, d, x with
    | _, .int k, .int _ n => some (.int k (k.wrap n), none)
    | _, .string, .str l => some (.str l, none)
    | _, .slice e, .str l => match P.underlying e with
      | some (.int .u8) => some (.sl 1 h.length 0 0 l.length, some (h ++ [.cells 0 none (l.map fun b => .int .u8 b.toNat) 0]))
      | _ => none
    | .slice e, .string, x => match P.underlying e with
      | some (.int .u8) => match lenA x with
        | some n => match x with
          | .str _ => none
          | x => match firstA h 1 n x with
            | some cs => (toBytes cs).map fun l => (.str l, none)
            | none => none
        | none => none
      | _ => none
    | _, _, _ => none
  | _, _ => none

def isYield : Fn → Bool
  | .yield _ => true
  | _ => false

def fnOk (P : Program) (f : FuncId) : Bool :=
  match P.funcs[f]? with
  | some fn => !(fn.name == "runtime.NumGoroutine") && fn.body.isSome
  | none => false

def mapM' (ρ : Operand → Option AV) : List Operand → Option (List AV)
  | [] => some []
  | x :: xs => match ρ x, mapM' ρ xs with
    | some v, some vs => some (v :: vs)
    | _, _ => none

def partsM (ρ : Operand → Option AV) : List (Nat × Operand) → Option (List (Nat × AV))
  | [] => some []
  | (i, x) :: xs => match ρ x, partsM ρ xs with
    | some v, some vs => some ((i, v) :: vs)
    | _, _ => none

def optM (ρ : Operand → Option AV) : Option Operand → Option (Option Int)
  | none => some none
  | some x => match ρ x with
    | some (.int _ n) => some (some n)
    | _ => none

def rep (n : Nat) (zs : List AV) : List AV := match n with
  | 0 => []
  | n + 1 => zs ++ rep n zs

def fieldPlaces (P : Program) : List Field → Option (List (Nat × Nat))
  | [] => some []
  | f :: fs => match ti P f.type, fieldPlaces P fs with
    | some d, some r => some ((f.offset, d.size) :: r)
    | _, _ => none

def ofRes (r : Option (AV × Option AHeap)) : Option R :=
  match r with
  | some (v, none) => some (.val v)
  | some (v, some h) => some (.valh v h)
  | none => none

/-- A call of a builtin. -/
def builtinA (P : Program) (h : AHeap) (b : Builtin) (ts : List TypeId) (args : List AV) : Option R :=
  match b, ts, args with
  | .len, [t], [x] => match P.underlying t with
    | some (.string) => match x with | .str s => some (.val (.int .i64 s.length)) | _ => none
    | some (.array n _) => some (.val (.int .i64 n))
    | some (.slice _) => match x with
      | .lst _ xs _ => some (.val (.int .i64 xs.length))
      | .sl _ _ _ _ len => some (.val (.int .i64 len))
      | _ => none
    | _ => none
  | .append, [t, _], [s, x] => match P.underlying t, P.underlying (ts.getD 1 0) with
    | some (.slice e), some (.int _) => none
    | some (.slice e), some _ => ofRes (appendA P h e s x)
    | _, _ => none
  | .copy, (t :: _), [s, x] => match P.underlying t with
    | some (.slice e) => ofRes (copyA P h e s x)
    | _ => none
  | _, _, _ => none

/-- Pointers as unsafe.Pointer and back. -/
def convP (P : Program) (h : AHeap) (src dst : TypeId) (x : AV) : Option AV :=
  match P.underlying src, P.underlying dst with
  | some (.pointer t), some .unsafePointer => match x with
    | .nilp => some .nilp
    | .ptr b ver o => match h[b]?, ti P t with
      | some (.cells ver' _ cs _), some d => if ver' = ver ∧ d.size ≠ 0 ∧ o < cs.length then some (.ptr b ver o) else none
      | _, _ => none
    | _ => none
  | some .unsafePointer, some (.pointer u) => match x with
    | .nilp => some .nilp
    | .ptr b ver o => match h[b]?, ti P u with
      | some (.cells ver' (some el) cs _), some _ => if ver' = ver ∧ liesAt P P.depth el (cs.length / P.cellsOf el) o u 1 = true then some (.ptr b ver o) else none
      | _, _ => none
    | _ => none
  | _, _ => none

def AV.byteB : AV → Bool
  | .int .u8 n => decide (0 ≤ n) && decide (n < 256)
  | _ => false

def foldI (f : Int → Int → Int) : Int → List AV → Option Int
  | x, [] => some x
  | x, .int _ y :: r => foldI f (f x y) r
  | _, _ => none

/-- More builtins. -/
def extraB (P : Program) (h : AHeap) (b : Builtin) (ts : List TypeId) (args : List AV) : Option R :=
  match b with
  | .min => match args with
    | .int k a :: r => (foldI (fun x y => if y < x then y else x) a r).map fun n => .val (.int k n)
    | _ => none
  | .max => match args with
    | .int k a :: r => (foldI (fun x y => if y > x then y else x) a r).map fun n => .val (.int k n)
    | _ => none
  | .cap => match ts, args with
    | [t], [.lst _ xs true] => match P.underlying t with
      | some (.slice _) => some (.val (.int .i64 xs.length))
      | _ => none
    | _, _ => none
  | .unsafeSliceData => match args with
    | [.lst 0 [] true] => some (.val .nilp)
    | [.sl _ b ver o len] => if len ≠ 0 then some (.val (.ptr b ver o)) else none
    | _ => none
  | .unsafeString => match ts, args with
    | [pt, _], [p, .int .i64 n] => if n = 0 then (match p with | .nilp => some (.val (.str [])) | .ptr _ _ _ => some (.val (.str [])) | _ => none) else
      match p, P.underlying pt with
      | .ptr b ver 0, some (.pointer e) => match h[b]?, ti P e with
        | some (.cells ver' (some el) cs frz), some d => if ver' = ver ∧ el = e ∧ d.size = 1 ∧ 0 < n ∧ n.toNat ≤ cs.length ∧ cs.length ≤ 1073741824 ∧ (cs.take n.toNat).all AV.byteB = true then
            (toBytes (cs.take n.toNat)).map fun l => .valh (.str l) (h.set b (.cells ver (some el) cs (max frz n.toNat))) else none
        | _, _ => none
      | _, _ => none
    | _, _ => none
  | _ => none

/-- Functions without a body. -/
def extA (P : Program) (h : AHeap) (f : FuncId) (args : List AV) : Option R :=
  match P.funcs[f]? with
  | none => none
  | some fn => if fn.body.isNone ∧ fn.origin = "" then
      if fn.name = "internal/abi.NoEscape" then match args with
        | [x] => some (.val x)
        | _ => none
      else if fn.name = "internal/bytealg.MakeNoZero" then match fn.resultTypes.toList, args with
        | [t], [.int .i64 n] => match P.underlying t with
          | some (.slice e) => if 0 ≤ n ∧ n ≤ 1073741824 then some (.valh (.sl 1 h.length 0 0 n.toNat) (h ++ [.cells 0 (some e) [] 0])) else none
          | _ => none
        | _, _ => none
      else none
    else none

/-- The method of a dynamic type, where it is the type's own. -/
def methA (P : Program) (t : TypeId) (name : String) : Option FuncId :=
  match P.info? t with
  | none => none
  | some i => match i.methods.find? (·.name == name), P.underlying t with
    | some m, some d => match m.func with
      | some (f, pr) => if m.path.isEmpty && (match d with | .pointer _ => pr | _ => !pr) then some f else none
      | none => none
    | _, _ => none

def assertA (P : Program) (x : AV) (asserted : TypeId) (commaOk : Bool) : Option AV :=
  let holds (v : AV) : Option AV := some (if commaOk then .tup [v, .bool true] else v)
  let fails : Option AV := if commaOk ∧ (ti P asserted).isSome then some (.tup [.undef, .bool false]) else none
  match P.underlying asserted with
  | some (.interface want) => match x with
    | .nili => fails
    | .ifc t v => match P.info? t with
      | some i => match Instr.missingMethod want i.methods with
        | none => holds (.ifc t v)
        | some _ => fails
      | none => none
    | _ => none
  | some _ => match x with
    | .nili => fails
    | .ifc t v => if t = asserted then holds v else fails
    | _ => none
  | none => none

/-- One operation. -/
def exOp (P : Program) (ρ : Operand → Option AV) (h : AHeap) (o : Oper) : Option R :=
  match o.op with
  | .move x | .assign x => (ρ x).map .val
  | .pick c a b => match ρ c, ρ a, ρ b with
    | some (.bool t), some x, some y => some (.val (if t then x else y))
    | _, _, _ => none
  | .alloc e => match ti P e with
    | some d => some (.valh (.ptr h.length 0 0) (h ++ [.cells 0 (some e) d.zero 0]))
    | none => none
  | .box e x => match ρ x with
    | some v => match v.cells? with
      | some cs => some (.valh (.ptr h.length 0 0) (h ++ [.cells 0 (some e) cs 0]))
      | none => none
    | none => none
  | .build t ps => match ti P t, partsM ρ ps.toList with
    | some d, some l => match d.desc with
      | .struct fs => match fieldPlaces P fs.toList with
        | some pl => (fillA (pl[·]?) d.zero l).map fun cs => .val (.agg cs)
        | none => none
      | .array _ e => match ti P e with
        | some de => (fillA (fun i => some (i * de.size, de.size)) d.zero l).map fun cs => .val (.agg cs)
        | none => none
      | _ => none
    | _, _ => none
  | .buildSlice t n ps => match P.underlying t, partsM ρ ps.toList with
    | some (.slice e), some l => match ti P e with
      | some d => if n * d.size > 16777216 ∨ d.zero.length ≠ d.size ∨ d.size = 0 then none else
        match fillA (fun i => some (i * d.size, d.size)) (rep n d.zero) l with
        | some cs => if cs.all AV.scal ∧ (isAggD d.desc = true ∨ d.size = 1) then some (.val (.lst d.size (elemsA d n cs) true)) else none
        | none => none
      | none => none
    | _, _ => none
  | .load t p => match ρ p with
    | some a => (loadA P h t a).map .val
    | none => none
  | .store t p x => match ρ p, ρ x with
    | some a, some v => (storeA P h t a v).map fun h' => .valh .undef h'
    | _, _ => none
  | .nilCheck x => match ρ x with
    | some (.ptr b v o) => some (.val (.ptr b v o))
    | some (.pin cs o) => some (.val (.pin cs o))
    | some (.fn (.func g) y z) => some (.val (.fn (.func g) y z))
    | some (.ifc t v) => some (.val (.ifc t v))
    | _ => none
  | .binOp op t x y _ => match ρ x, ρ y with
    | some a, some b => match a, b with
      | .int _ _, .int _ _ => (binA op a b).map .val
      | .str _, .str _ => (binA op a b).map .val
      | a, b => if guardA P t x y a b then match op with
        | .eql => (eqA P 20 t a b).map fun r => .val (.bool r)
        | .neq => (eqA P 20 t a b).map fun r => .val (.bool (!r))
        | _ => none else none
    | _, _ => none
  | .unOp op _ x => match ρ x with
    | some a => (unA op a).map .val
    | none => none
  | .convert s d x => match ρ x with
    | some a => match convP P h s d a with
      | some v => some (.val v)
      | none => ofRes (convA P h s d a)
    | none => none
  | .makeInterface t x => match P.underlying t, ρ x with
    | some (.interface _), _ => none
    | some _, some v => some (.val (.ifc t v))
    | _, _ => none
  | .makeFunc f xs ys => match mapM' ρ xs.toList, mapM' ρ ys.toList with
    | some a, some b => if isYield f then none else some (.val (.fn f a b))
    | _, _ => none
  | .makeSlice t l c => match P.underlying t, ρ l, ρ c with
    | some (.slice e), some (.int _ a), some (.int _ b) => match ti P e with
      | some d => if 0 ≤ a ∧ a ≤ b ∧ b ≤ 1073741824 ∧ d.bytes ≤ 65536 ∧ d.zero.length = d.size ∧ d.size ≠ 0 then
          some (.valh (.sl d.size h.length 0 0 a.toNat) (h ++ [.cells 0 (some e) (rep a.toNat d.zero) 0])) else none
      | none => none
    | _, _, _ => none
  | .slice t x lo hi mx => match ρ x, optM ρ lo, optM ρ hi, optM ρ mx, P.underlying t with
    | some v, some l, some h', some m, some d => match d, v with
      | .string, .str _ => (sliceA 1 v l h' m).map .val
      | .slice e, v => match ti P e, v with
        | some de, .lst _ _ _ => (sliceA de.size v l h' m).map .val
        | some de, .sl _ _ _ _ _ => (sliceA de.size v l h' m).map .val
        | _, _ => none
      | .array n e, .ptr b ver o => match ti P e with
        | some de => match h[b]? with
          | some (.cells ver' _ cs _) => if ver' = ver ∧ o + n * de.size ≤ cs.length ∧ 0 < n then (sliceA de.size (.sl de.size b ver o n) l h' m).map .val else none
          | _ => none
        | none => none
      | _, _ => none
    | _, _, _, _, _ => none
  | .fieldAddr t x i => match P.underlying t, ρ x with
    | some (.struct fs), some p => match fs[i]? with
      | some f => match ti P f.type with
        | some d => if d.size = 0 then none else match p with
          | .ptr b ver o => some (.val (.ptr b ver (o + f.offset)))
          | .pin cs o => some (.val (.pin cs (o + f.offset)))
          | _ => none
        | none => none
      | none => none
    | _, _ => none
  | .field t x i => match P.underlying t, ρ x with
    | some (.struct fs), some (.agg cs) => match fs[i]? with
      | some f => match ti P f.type with
        | some d => (partA d cs f.offset).map .val
        | none => none
      | none => none
    | _, _ => none
  | .indexAddr t x ix => match P.underlying t, ρ x, ρ ix with
    | some (.slice e), some v, some (.int _ i) => match ti P e with
      | some d => match v with
        | .lst sz xs _ => if 0 ≤ i ∧ sz = d.size then match xs[i.toNat]? with
          | some x => x.cells?.map fun cs => .val (.pin cs 0)
          | none => none else none
        | .sl sz b ver o len => if 0 ≤ i ∧ i < len ∧ sz = d.size then some (.val (.ptr b ver (o + i.toNat * sz))) else none
        | _ => none
      | none => none
    | some (.array n e), some p, some (.int _ i) => match ti P e with
      | some d => if 0 ≤ i ∧ i < n then match p with
        | .ptr b ver o => some (.val (.ptr b ver (o + i.toNat * d.size)))
        | .pin cs o => some (.val (.pin cs (o + i.toNat * d.size)))
        | _ => none else none
      | none => none
    | _, _, _ => none
  | .index t x ix => match P.underlying t, ρ x, ρ ix with
    | some (.string), some (.str s), some (.int _ i) => if 0 ≤ i then match s[i.toNat]? with
        | some b => some (.val (.int .u8 b.toNat))
        | none => none else none
    | some (.array n e), some (.agg cs), some (.int _ i) => if 0 ≤ i ∧ i < n then match ti P e with
        | some d => (partA d cs (i.toNat * d.size)).map .val
        | none => none else none
    | _, _, _ => none
  | .extract x i => match ρ x with
    | some (.tup vs) => vs[i]?.map .val
    | _ => none
  | .call c => match mapM' ρ c.args.toList with
    | none => none
    | some args => match c.callee with
      | .builtin b => match builtinA P h b c.argTypes.toList args with
        | some r => some r
        | none => extraB P h b c.argTypes.toList args
      | .value f => match ρ f with
        | some (.fn (.func g) x y) => if fnOk P g then some (.call g (x ++ args ++ y)) else extA P h g (x ++ args ++ y)
        | some (.fn (.yield b) [] []) => some (.call (P.funcs.size + b) args)
        | _ => none
      | .invoke x name => match ρ x with
        | some (.ifc t v) => match methA P t name with
          | some g => if fnOk P g then some (.call g (v :: args)) else none
          | none => none
        | _ => none
  | .typeAssert x _ t ok => match ρ x with
    | some v => (assertA P v t ok).map .val
    | none => none
  | _ => none

end Go.Abs
