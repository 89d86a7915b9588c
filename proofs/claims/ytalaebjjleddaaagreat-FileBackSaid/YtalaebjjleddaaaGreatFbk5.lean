/- Texts put together: AbsQ, AbsR. -/
import Derived.Test.YtalaebjjleddaaaGreatFbk4
/- Operations in which all that the program fixes has been looked up: what each one asks and yields. -/
set_option linter.unusedVariables false
set_option linter.unusedSimpArgs false
namespace Go.Abs

/-- An operand: a temporary, or a value. -/
inductive RX where
  | t (n : Nat)
  | c (v : AV)
  deriving Inhabited

def resX : Operand → Option RX
  | .tmp t => some (.t t)
  | .const v => (ofV v).map .c
  | .func f => some (.c (.fn (.func f) [] []))
  | .global _ => none

def resXs : List Operand → Option (List RX)
  | [] => some []
  | x :: xs => match resX x, resXs xs with
    | some a, some as => some (a :: as)
    | _, _ => none

def resXo : Option Operand → Option (Option RX)
  | none => some none
  | some x => (resX x).map some

noncomputable def evX (tm : Tm) : RX → AV
  | .t n => tm.get n
  | .c v => v

inductive RO where
  | mv (x : RX)
  | pick (c a b : RX)
  | alloc (e : TypeId) (z : List AV)
  | box (e : TypeId) (x : RX)
  | build (z : List AV) (ps : List (Nat × Nat × RX))
  | mkLst (sz : Nat) (ag : Bool) (n : Nat) (z : List AV) (ps : List (Nat × Nat × RX))
  | load (ag : Bool) (sz : Nat) (p : RX)
  | store (sz : Nat) (p x : RX)
  | nilCheck (x : RX)
  | bin (op : BinOp) (x y : RX)
  | cmp (neg : Bool) (t : TypeId) (x y : RX)
  | isNil (neg : Bool) (x : RX)
  | isNilI (neg : Bool) (x : RX)
  | un (op : UnOp) (x : RX)
  | toInt (k : IntKind) (x : RX)
  | toStr (x : RX)
  | strBytes (x : RX)
  | bytesStr (x : RX)
  | mkIfc (t : TypeId) (x : RX)
  | mkFn (f : Fn) (xs ys : List RX)
  | mkSl (e : TypeId) (sz : Nat) (z : List AV) (l c : RX)
  | sliceS (x : RX) (lo hi : Option RX)
  | sliceL (sz : Nat) (x : RX) (lo hi mx : Option RX)
  | sliceP (n sz : Nat) (x : RX) (lo hi mx : Option RX)
  | uData (x : RX)
  | mm (mx : Bool) (x y : RX)
  | mm3 (mx : Bool) (x y z : RX)
  | fieldAddr (off : Nat) (x : RX)
  | field (ag : Bool) (sz off : Nat) (x : RX)
  | indexAddrL (sz : Nat) (x i : RX)
  | indexAddrA (n sz : Nat) (x i : RX)
  | indexS (x i : RX)
  | indexA (ag : Bool) (n sz : Nat) (x i : RX)
  | extract (x : RX) (i : Nat)
  | lenS (x : RX)
  | lenL (x : RX)
  | lenA (n : Nat)
  | app (e : TypeId) (sz : Nat) (s x : RX)
  | cpy (sz : Nat) (s x : RX)
  | callF (g : FuncId) (args : List RX)
  | callV (x : RX) (args : List RX)
  | inv (x : RX) (name : String) (args : List RX)
  | asrt (t : TypeId) (ok z : Bool) (x : RX)
  | uStr (e : TypeId) (p n : RX)
  | toU (x : RX)
  | frU (u : TypeId) (x : RX)
  | capL (x : RX)
  | mkNZ (e : TypeId) (x : RX)
  | s2a (n : Nat) (x : RX)
  | mkMap
  | look (t : TypeId) (ok : Bool) (x k : RX)
  | upd (t : TypeId) (x k v : RX)
  | raw (o : Oper)
  deriving Inhabited

def partR (ag : Bool) (sz : Nat) (cs : List AV) (off : Nat) : Option AV :=
  if ag then (if off + sz ≤ cs.length then some (.agg ((cs.drop off).take sz)) else none) else cs[off]?

noncomputable def fillR (ρ : RX → Option AV) (cs : List AV) (l : List (Nat × Nat × RX)) : Option (List AV) := @List.rec (Nat × Nat × RX) (fun _ => List AV → Option (List AV)) (fun cs => some cs) (fun p _ ih cs => match p with
  | (off, sz, x) => match ρ x with
    | some v => match v.cells? with
      | some xs => if xs.length = sz ∧ off + xs.length ≤ cs.length then ih (putAt cs off xs) else none
      | none => none
    | none => none) l cs
theorem fillR_cons (ρ : RX → Option AV) (cs : List AV) (off sz : Nat) (x : RX) (r : List (Nat × Nat × RX)) : fillR ρ cs ((off, sz, x) :: r) = match ρ x with
    | some v => match v.cells? with
      | some xs => if xs.length = sz ∧ off + xs.length ≤ cs.length then fillR ρ (putAt cs off xs) r else none
      | none => none
    | none => none := rfl

/-- Places of parts. -/
def placesR (place : Nat → Option (Nat × Nat)) : List (Nat × Operand) → Option (List (Nat × Nat × RX))
  | [] => some []
  | (i, x) :: r => match place i, resX x, placesR place r with
    | some (off, sz), some a, some as => some ((off, sz, a) :: as)
    | _, _, _ => none

/-- Append, with the type's facts looked up. -/
def appR (h : AHeap) (elem : TypeId) (dsz : Nat) (s x : AV) : Option (AV × Option AHeap) :=
  match lenA x with
  | some n =>
    match firstA h dsz n x with
    | none => none
    | some ys =>
      if !ys.all AV.scal then none else
      match s with
      | .lst sz xs true => if n = 0 then some (.lst sz xs true, none) else match firstA h dsz xs.length (.lst sz xs true) with
        | some old => if xs.length + n ≤ 1073741824 ∧ old.all AV.scal then some (.sl dsz h.length 0 0 (xs.length + n), some (h ++ [.cells 0 (some elem) (old ++ ys) 0])) else none
        | none => none
      | .sl sz b ver o len => match h[b]? with
        | some (.cells ver' el cs frz) =>
          if (el = some elem ∨ el = none) ∧ sz = dsz ∧ ver' = ver ∧ o = 0 ∧ len * sz = cs.length ∧ cs.all AV.scal ∧ len + n ≤ 1073741824 ∧ frz ≤ cs.length then
            (if n = 0 then some (s, none) else some (.sl sz b (ver + 1) 0 (len + n), some (h.set b (.cells (ver + 1) el (cs ++ ys) frz))))
          else none
        | _ => none
      | _ => none
  | _ => none

def cpyR (h : AHeap) (dsz : Nat) (s x : AV) : Option (AV × Option AHeap) :=
  match slLen s, lenA x with
  | some a, some b =>
    let n := min b a
    match firstA h dsz n x with
    | none => none
    | some ys =>
      if n = 0 then some (.int .i64 0, none) else
      match s with
      | .sl sz b ver o _ => match h[b]? with
        | some (.cells ver' el cs frz) => if sz = dsz ∧ ver' = ver ∧ frz ≤ o ∧ o + ys.length ≤ cs.length ∧ ys.all AV.scal then
            some (.int .i64 n, some (h.set b (.cells ver el (putAt cs o ys) frz))) else none
        | _ => none
      | _ => none
  | _, _ => none

def scalarD : TypeDesc → Bool
  | .int _ => true
  | .string => true
  | _ => false

/-- A pointer held against nil. -/
def ptrNil : TypeDesc → Operand → Bool
  | .pointer _, .const (.pointer none) => true
  | _, _ => false
theorem ptrNil_iff {d : TypeDesc} {y : Operand} (h : ptrNil d y = true) : ∃ e, d = .pointer e ∧ y = .const (.pointer none) := by
  unfold ptrNil at h
  split at h
  · exact ⟨_, rfl, rfl⟩
  · cases h

/-- An interface held against nil. -/
def ifcNil : TypeDesc → Operand → Bool
  | .interface _, .const .nilIface => true
  | _, _ => false
theorem ifcNil_iff {d : TypeDesc} {y : Operand} (h : ifcNil d y = true) : ∃ e, d = .interface e ∧ y = .const .nilIface := by
  unfold ifcNil at h
  split at h
  · exact ⟨_, rfl, rfl⟩
  · cases h

/-- The function that returns its argument. -/
def isNoEsc (P : Program) (g : FuncId) : Bool := match P.funcs[g]? with
  | some fn => fn.body.isNone && fn.origin == "" && fn.name == "internal/abi.NoEscape"
  | none => false
theorem isNoEsc_ext {P : Program} {g : FuncId} {h : AHeap} {v : AV} (hg : isNoEsc P g = true) : extA P h g [v] = some (.val v) := by
  unfold isNoEsc at hg
  unfold extA
  split at hg
  · rename_i fn hf
    simp only [Bool.and_eq_true, beq_iff_eq] at hg
    rw [hf]
    simp only
    rw [if_pos ⟨hg.1.1, hg.1.2⟩, if_pos hg.2]
  · cases hg

/-- The function that makes bytes. -/
def isMkNZ (P : Program) (g : FuncId) : Option TypeId := match P.funcs[g]? with
  | some fn => if fn.body.isNone && fn.origin == "" && fn.name == "internal/bytealg.MakeNoZero" then match fn.resultTypes.toList with
    | [t] => match P.underlying t with
      | some (.slice e) => some e
      | _ => none
    | _ => none else none
  | none => none
theorem isMkNZ_ext {P : Program} {g : FuncId} {h : AHeap} {n : Int} {e : TypeId} (hg : isMkNZ P g = some e) (h0 : 0 ≤ n) (h1 : n ≤ 1073741824) : extA P h g [.int .i64 n] = some (.valh (.sl 1 h.length 0 0 n.toNat) (h ++ [.cells 0 (some e) [] 0])) := by
  unfold isMkNZ at hg
  unfold extA
  split at hg
  · rename_i fn hf
    split at hg
    · rename_i hc
      simp only [Bool.and_eq_true, beq_iff_eq] at hc
      split at hg
      · rename_i t ht
        split at hg
        · rename_i e' he
          cases hg
          rw [hf]
          simp only
          rw [if_pos ⟨hc.1.1, hc.1.2⟩, if_neg (by rw [hc.2]; decide), if_pos hc.2, ht]
          simp only [he]
          rw [if_pos ⟨h0, h1⟩]
        · cases hg
      · cases hg
    · cases hg
  · cases hg

def resOp (P : Program) (o : Oper) : Option RO :=
  match o.op with
  | .move x | .assign x => (resX x).map .mv
  | .pick c a b => match resX c, resX a, resX b with
    | some c, some a, some b => some (.pick c a b)
    | _, _, _ => none
  | .alloc e => (ti P e).map fun d => .alloc e d.zero
  | .box e x => (resX x).map (.box e)
  | .build t ps => match ti P t with
    | some d => match d.desc with
      | .struct fs => match fieldPlaces P fs.toList with
        | some pl => (placesR (pl[·]?) ps.toList).map (.build d.zero)
        | none => none
      | .array _ e => match ti P e with
        | some de => (placesR (fun i => some (i * de.size, de.size)) ps.toList).map (.build d.zero)
        | none => none
      | _ => none
    | none => none
  | .buildSlice t n ps => match P.underlying t with
    | some (.slice e) => match ti P e with
      | some d => if n * d.size > 16777216 ∨ d.zero.length ≠ d.size ∨ d.size = 0 ∨ ¬ (isAggD d.desc = true ∨ d.size = 1) then none else
        (placesR (fun i => some (i * d.size, d.size)) ps.toList).map (.mkLst d.size (isAggD d.desc) n d.zero)
      | none => none
    | _ => none
  | .load t p => match ti P t, resX p with
    | some d, some a => some (.load (isAggD d.desc) d.size a)
    | _, _ => none
  | .store t p x => match ti P t, resX p, resX x with
    | some d, some a, some b => some (.store d.size a b)
    | _, _, _ => none
  | .nilCheck x => (resX x).map .nilCheck
  | .binOp op t x y _ => match P.underlying t, resX x, resX y with
    | some d, some a, some b => if scalarD d then some (.bin op a b) else if ptrNil d y then (match op with
        | .eql => some (.isNil false a)
        | .neq => some (.isNil true a)
        | _ => none) else if ifcNil d y then (match op with
        | .eql => some (.isNilI false a)
        | .neq => some (.isNilI true a)
        | _ => none) else
        (if isConstO x || isConstO y || P.eqGuardType P.depth t then none else match op with
        | .eql => some (.cmp false t a b)
        | .neq => some (.cmp true t a b)
        | _ => none)
    | _, _, _ => none
  | .unOp op _ x => (resX x).map (.un op)
  | .convert s d x => match P.underlying s, P.underlying d, resX x with
    | some (.int _), some (.int k), some a => some (.toInt k a)
    | some (.string), some (.string), some a => some (.toStr a)
    | some (.string), some (.slice e), some a => match P.underlying e with
      | some (.int .u8) => some (.strBytes a)
      | _ => none
    | some (.slice e), some (.string), some a => match P.underlying e with
      | some (.int .u8) => some (.bytesStr a)
      | _ => none
    | some (.pointer t), some .unsafePointer, some a => match ti P t with
      | some d => if d.size = 0 then none else some (.toU a)
      | none => none
    | some .unsafePointer, some (.pointer u), some a => if (ti P u).isSome then some (.frU u a) else none
    | _, _, _ => none
  | .makeInterface t x => match P.underlying t, resX x with
    | some (.interface _), _ => none
    | some _, some a => some (.mkIfc t a)
    | _, _ => none
  | .makeFunc f xs ys => match resXs xs.toList, resXs ys.toList with
    | some a, some b => if isYield f then none else some (.mkFn f a b)
    | _, _ => none
  | .makeSlice t l c => match P.underlying t, resX l, resX c with
    | some (.slice e), some a, some b => match ti P e with
      | some d => if d.bytes ≤ 65536 ∧ d.zero.length = d.size ∧ d.size ≠ 0 then some (.mkSl e d.size d.zero a b) else none
      | none => none
    | _, _, _ => none
  | .slice t x lo hi mx => match P.underlying t, resX x, resXo lo, resXo hi, resXo mx with
    | some (.string), some a, some l, some h', some none => some (.sliceS a l h')
    | some (.slice e), some a, some l, some h', some m => match ti P e with
      | some de => some (.sliceL de.size a l h' m)
      | none => none
    | some (.array n e), some a, some l, some h', some m => match ti P e with
      | some de => some (.sliceP n de.size a l h' m)
      | none => none
    | _, _, _, _, _ => none
  | .fieldAddr t x i => match P.underlying t, resX x with
    | some (.struct fs), some a => match fs[i]? with
      | some f => match ti P f.type with
        | some d => if d.size = 0 then none else some (.fieldAddr f.offset a)
        | none => none
      | none => none
    | _, _ => none
  | .field t x i => match P.underlying t, resX x with
    | some (.struct fs), some a => match fs[i]? with
      | some f => match ti P f.type with
        | some d => some (.field (isAggD d.desc) d.size f.offset a)
        | none => none
      | none => none
    | _, _ => none
  | .indexAddr t x ix => match P.underlying t, resX x, resX ix with
    | some (.slice e), some a, some b => match ti P e with
      | some d => some (.indexAddrL d.size a b)
      | none => none
    | some (.array n e), some a, some b => match ti P e with
      | some d => some (.indexAddrA n d.size a b)
      | none => none
    | _, _, _ => none
  | .index t x ix => match P.underlying t, resX x, resX ix with
    | some (.string), some a, some b => some (.indexS a b)
    | some (.array n e), some a, some b => match ti P e with
      | some d => some (.indexA (isAggD d.desc) n d.size a b)
      | none => none
    | _, _, _ => none
  | .extract x i => (resX x).map fun a => .extract a i
  | .call c => match c.callee with
    | .builtin .len => match c.argTypes.toList, c.args.toList with
      | [t], [x] => match P.underlying t, resX x with
        | some (.string), some a => some (.lenS a)
        | some (.array n _), some _ => some (.lenA n)
        | some (.slice _), some a => some (.lenL a)
        | _, _ => none
      | _, _ => none
    | .builtin .append => match c.argTypes.toList, c.args.toList with
      | [t, t2], [s, x] => match P.underlying t, P.underlying t2, resX s, resX x with
        | some (.slice _), some (.int _), _, _ => none
        | some (.slice e), some _, some a, some b => match ti P e with
          | some d => if d.bytes > 65536 ∨ d.size = 0 ∨ d.zero.length ≠ d.size then none else some (.app e d.size a b)
          | none => none
        | _, _, _, _ => none
      | _, _ => none
    | .builtin .copy => match c.argTypes.toList, c.args.toList with
      | t :: _, [s, x] => match P.underlying t, resX s, resX x with
        | some (.slice e), some a, some b => match ti P e with
          | some d => some (.cpy d.size a b)
          | none => none
        | _, _, _ => none
      | _, _ => none
    | .builtin .unsafeSliceData => match c.args.toList with
      | [x] => (resX x).map .uData
      | _ => none
    | .builtin .min => match c.args.toList with
      | [x, y] => match resX x, resX y with
        | some a, some b => some (.mm false a b)
        | _, _ => none
      | [x, y, z] => match resX x, resX y, resX z with
        | some a, some b, some c => some (.mm3 false a b c)
        | _, _, _ => none
      | _ => none
    | .builtin .max => match c.args.toList with
      | [x, y] => match resX x, resX y with
        | some a, some b => some (.mm true a b)
        | _, _ => none
      | [x, y, z] => match resX x, resX y, resX z with
        | some a, some b, some c => some (.mm3 true a b c)
        | _, _, _ => none
      | _ => none
    | .builtin .cap => match c.argTypes.toList, c.args.toList with
      | [t], [x] => match P.underlying t, resX x with
        | some (.slice _), some a => some (.capL a)
        | _, _ => none
      | _, _ => none
    | .builtin .unsafeString => match c.argTypes.toList, c.args.toList with
      | [pt, _], [p, n] => match P.underlying pt, resX p, resX n with
        | some (.pointer e), some a, some b => match ti P e with
          | some d => if d.size = 1 then some (.uStr e a b) else none
          | none => none
        | _, _, _ => none
      | _, _ => none
    | .value (.func g) => match resXs c.args.toList with
      | some as => if fnOk P g then some (.callF g as) else if isNoEsc P g then (match as with
        | [a] => some (.mv a)
        | _ => none) else match isMkNZ P g, as with
          | some e, [a] => some (.mkNZ e a)
          | _, _ => none
      | none => none
    | .value (.tmp t) => match resXs c.args.toList with
      | some as => some (.callV (.t t) as)
      | none => none
    | .invoke x name => match resX x, resXs c.args.toList with
      | some a, some as => some (.inv a name as)
      | _, _ => none
    | _ => none
  | .typeAssert x _ t ok => match P.underlying t, resX x with
    | some (.interface _), _ => none
    | some _, some a => some (.asrt t ok (ti P t).isSome a)
    | _, _ => none
  | .sliceToArrayPointer t x => match P.underlying t, resX x with
    | some (.array n _), some a => some (.s2a n a)
    | _, _ => none
  | .makeMap t r => match P.underlying t, r with
    | some (.map _ _), none => some .mkMap
    | _, _ => none
  | .lookup t x k ok => match resX x, resX k with
    | some a, some b => some (.look t ok a b)
    | _, _ => none
  | .mapUpdate t x k v => match resX x, resX k, resX v with
    | some a, some b, some c => some (.upd t a b c)
    | _, _, _ => none
  | .insert t x k v => match resX x, resX k, resX v with
    | some a, some b, some c => some (.upd t a b c)
    | _, _, _ => none
  | _ => none

def resO (P : Program) (o : Oper) : RO := (resOp P o).getD (.raw o)

/-- Whole numbers. -/
def WpInt (op : BinOp) (k : IntKind) (a : Int) (k' : IntKind) (b : Int) (K : AV → Prop) : Prop :=
  match op with
  | .shl => 0 ≤ b ∧ ∃ z, k.wrap (a * 2 ^ (min b.toNat k.bits)) = z ∧ K (.int k z)
  | .shr => 0 ≤ b ∧ ∃ z, a.fdiv (2 ^ (min b.toNat k.bits)) = z ∧ K (.int k z)
  | _ => if k = k' then
    (match op with
    | .add => ∃ z, k.wrap (a + b) = z ∧ K (.int k z)
    | .sub => ∃ z, k.wrap (a - b) = z ∧ K (.int k z)
    | .mul => ∃ z, k.wrap (a * b) = z ∧ K (.int k z)
    | .quo => b ≠ 0 ∧ ∃ z, k.wrap (a.tdiv b) = z ∧ K (.int k z)
    | .rem => b ≠ 0 ∧ ∃ z, a.tmod b = z ∧ K (.int k z)
    | .and => ∃ z, k.wrap (BitVec.ofInt k.bits a &&& BitVec.ofInt k.bits b).toNat = z ∧ K (.int k z)
    | .or => ∃ z, k.wrap (BitVec.ofInt k.bits a ||| BitVec.ofInt k.bits b).toNat = z ∧ K (.int k z)
    | .xor => ∃ z, k.wrap (BitVec.ofInt k.bits a ^^^ BitVec.ofInt k.bits b).toNat = z ∧ K (.int k z)
    | .andNot => ∃ z, k.wrap (BitVec.ofInt k.bits a &&& ~~~BitVec.ofInt k.bits b).toNat = z ∧ K (.int k z)
    | .eql => K (.bool (a == b))
    | .neq => K (.bool (a != b))
    | .lss => K (.bool (decide (a < b)))
    | .leq => K (.bool (decide (a ≤ b)))
    | .gtr => K (.bool (decide (b < a)))
    | .geq => K (.bool (decide (b ≤ a)))
    | _ => False) else False

def WpStr (op : BinOp) (x y : List UInt8) (K : AV → Prop) : Prop :=
  match op with
  | .add => x.length + y.length ≤ 4611686018427387904 ∧ K (.str (x ++ y))
  | .eql => K (.bool (x == y))
  | .neq => K (.bool (!(x == y)))
  | .lss => K (.bool (Op.bytesLess x y))
  | .leq => K (.bool (Op.bytesLess x y || x == y))
  | .gtr => K (.bool (!(Op.bytesLess x y || x == y)))
  | .geq => K (.bool (!Op.bytesLess x y))
  | _ => False

def optX (ρ : RX → Option AV) : Option RX → Option (Option Int)
  | none => some none
  | some x => match ρ x with
    | some (.int _ n) => some (some n)
    | _ => none

noncomputable def mapX (ρ : RX → Option AV) (l : List RX) : Option (List AV) := @List.rec RX (fun _ => Option (List AV)) (some []) (fun x _ ih => match ρ x with
    | some a => match ih with
      | some as => some (a :: as)
      | none => none
    | none => none) l
theorem mapX_nil (ρ : RX → Option AV) : mapX ρ [] = some [] := rfl
theorem mapX_cons (ρ : RX → Option AV) (x : RX) (xs : List RX) : mapX ρ (x :: xs) = match ρ x with
    | some a => match mapX ρ xs with
      | some as => some (a :: as)
      | none => none
    | none => none := rfl

/-- One operation as it is. -/
def stepV (P : Program) (call : CallF) (o : Oper) (ρ : Operand → Option AV) (h : AHeap) : Option (CRes × AHeap) :=
  match exOp P ρ h o with
  | some (.val v) => some (.ret v, h)
  | some (.valh v h') => some (.ret v, h')
  | some (.call f args) => call f args h
  | _ => none

def WpR (K : AV → AHeap → Prop) (X : AV → AHeap → Prop) (h : AHeap) : CRes → Prop
  | .ret v => K v h
  | .pan v => X v h

def WpA (K : AV → AHeap → Prop) (h : AHeap) : Option (AV × Option AHeap) → Prop
  | some (v, none) => K v h
  | some (v, some h') => K v h'
  | none => False

def WpC (call : CallF) (g : FuncId) (args : List AV) (h : AHeap) (K : AV → AHeap → Prop) (X : AV → AHeap → Prop) : Prop :=
  ∃ r h', call g args h = some (r, h') ∧ WpR K X h' r

section
variable (ρ : RX → Option AV) (h : AHeap) (K : AV → AHeap → Prop)
def WMv (x : RX) : Prop := match ρ x with
  | some v => K v h
  | none => False
noncomputable def WPick (c a b : RX) : Prop := match ρ c with
  | some (.bool t) => match ρ a with
    | some v => match ρ b with
      | some u => @Bool.rec (fun _ => Prop) (K u h) (K v h) t
      | none => t = true ∧ K v h
    | none => match ρ b with
      | some u => t = false ∧ K u h
      | none => False
  | _ => False
def WBox (e : TypeId) (x : RX) : Prop := match ρ x with
  | some v => match v.cells? with
    | some cs => K (.ptr h.length 0 0) (h ++ [.cells 0 (some e) cs 0])
    | none => False
  | none => False
noncomputable def WBuild (z : List AV) (ps : List (Nat × Nat × RX)) : Prop := match fillR ρ z ps with
  | some cs => K (.agg cs) h
  | none => False
noncomputable def WMkLst (sz : Nat) (ag : Bool) (n : Nat) (z : List AV) (ps : List (Nat × Nat × RX)) : Prop := match fillR ρ (rep n z) ps with
  | some cs => cs.all AV.scal = true ∧ K (.lst sz (cond ag ((chunk sz n cs).map .agg) cs) true) h
  | none => False
def WPart (K' : AV → Prop) : Option AV → Prop
  | some v => K' v
  | none => False
def WLoad (ag : Bool) (sz : Nat) (p : RX) : Prop := match ρ p with
  | some (.ptr b ver o) => ∃ el cs frz, h[b]? = some (.cells ver el cs frz) ∧ WPart (K · h) (partR ag sz cs o)
  | some (.pin cs o) => WPart (K · h) (partR ag sz cs o)
  | _ => False
def WStore (sz : Nat) (p x : RX) : Prop := match ρ p with
  | some (.ptr b ver o) => match ρ x with
    | some v => ∃ el cs frz xs, h[b]? = some (.cells ver el cs frz) ∧ v.cells? = some xs ∧ xs.length = sz ∧ o + xs.length ≤ cs.length ∧ frz ≤ o ∧ K .undef (h.set b (.cells ver el (putAt cs o xs) frz))
    | none => False
  | _ => False
def WNil (x : RX) : Prop := match ρ x with
  | some (.ptr b v o) => K (.ptr b v o) h
  | some (.pin cs o) => K (.pin cs o) h
  | some (.fn (.func g) y z) => K (.fn (.func g) y z) h
  | some (.ifc t v) => K (.ifc t v) h
  | _ => False
def WBin (op : BinOp) (x y : RX) : Prop := match ρ x with
  | some (.int k a) => match ρ y with
    | some (.int k' b) => WpInt op k a k' b (K · h)
    | _ => False
  | some (.str a) => match ρ y with
    | some (.str b) => WpStr op a b (K · h)
    | _ => False
  | _ => False
def WCmp (P : Program) (neg : Bool) (t : TypeId) (x y : RX) : Prop := match ρ x with
  | some (.agg a) => match ρ y with
    | some (.agg b) => ∃ r, eqA P 20 t (.agg a) (.agg b) = some r ∧ K (.bool (cond neg (!r) r)) h
    | _ => False
  | some (.bool a) => match ρ y with
    | some (.bool b) => ∃ r, eqA P 20 t (.bool a) (.bool b) = some r ∧ K (.bool (cond neg (!r) r)) h
    | _ => False
  | some (.ptr a v o) => match ρ y with
    | some (.ptr a' v' o') => ∃ r, eqA P 20 t (.ptr a v o) (.ptr a' v' o') = some r ∧ K (.bool (cond neg (!r) r)) h
    | _ => False
  | _ => False
def WIsNil (neg : Bool) (x : RX) : Prop := match ρ x with
  | some .nilp => K (.bool (!neg)) h
  | some (.ptr _ _ _) => K (.bool neg) h
  | _ => False
def WIsNilI (neg : Bool) (x : RX) : Prop := match ρ x with
  | some .nili => K (.bool (!neg)) h
  | some (.ifc _ _) => K (.bool neg) h
  | _ => False
def WUn (op : UnOp) (x : RX) : Prop := match ρ x with
  | some (.bool b) => match op with
    | .not => K (.bool (!b)) h
    | _ => False
  | some (.int k n) => match op with
    | .neg => ∃ z, k.wrap (0 - n) = z ∧ K (.int k z) h
    | .xor => ∃ z, k.wrap (BitVec.ofInt k.bits (if k.signed then -1 else k.max) ^^^ BitVec.ofInt k.bits n).toNat = z ∧ K (.int k z) h
    | _ => False
  | _ => False
def WToInt (k : IntKind) (x : RX) : Prop := match ρ x with
  | some (.int _ n) => ∃ z, k.wrap n = z ∧ K (.int k z) h
  | _ => False
def WToStr (x : RX) : Prop := match ρ x with
  | some (.str l) => K (.str l) h
  | _ => False
def WStrBytes (x : RX) : Prop := match ρ x with
  | some (.str l) => K (.sl 1 h.length 0 0 l.length) (h ++ [.cells 0 none (l.map fun b => .int .u8 b.toNat) 0])
  | _ => False
def WBytesStr (x : RX) : Prop := match ρ x with
  | some (.lst sz xs c) => ∃ cs l, firstA h 1 xs.length (.lst sz xs c) = some cs ∧ toBytes cs = some l ∧ K (.str l) h
  | some (.sl sz b ver o n) => ∃ cs l, firstA h 1 n (.sl sz b ver o n) = some cs ∧ toBytes cs = some l ∧ K (.str l) h
  | _ => False
def WMkIfc (t : TypeId) (x : RX) : Prop := match ρ x with
  | some v => K (.ifc t v) h
  | none => False
noncomputable def WMkFn (f : Fn) (xs ys : List RX) : Prop := match mapX ρ xs with
  | some a => match mapX ρ ys with
    | some b => K (.fn f a b) h
    | none => False
  | none => False
def WMkSl (e : TypeId) (sz : Nat) (z : List AV) (l c : RX) : Prop := match ρ l with
  | some (.int _ a) => match ρ c with
    | some (.int _ b) => 0 ≤ a ∧ a ≤ b ∧ b ≤ 1073741824 ∧ K (.sl sz h.length 0 0 a.toNat) (h ++ [.cells 0 (some e) (rep a.toNat z) 0])
    | _ => False
  | _ => False
def WSliceS (x : RX) (lo hi : Option RX) : Prop := match ρ x with
  | some (.str s) => match optX ρ lo with
    | some l => match optX ρ hi with
      | some u => 0 ≤ l.getD 0 ∧ l.getD 0 ≤ u.getD s.length ∧ u.getD s.length ≤ s.length ∧ ∃ t, (s.take (u.getD s.length).toNat).drop (l.getD 0).toNat = t ∧ K (.str t) h
      | none => False
    | none => False
  | _ => False
def WSliceL (sz : Nat) (x : RX) (lo hi mx : Option RX) : Prop := match optX ρ lo with
  | some l => match optX ρ hi with
    | some u => match optX ρ mx with
      | some m => match ρ x with
        | some (.lst sz' xs c0) => ∃ v, sliceA sz (.lst sz' xs c0) l u m = some v ∧ K v h
        | some (.sl sz' b ver o n) => ∃ v, sliceA sz (.sl sz' b ver o n) l u m = some v ∧ K v h
        | _ => False
      | none => False
    | none => False
  | none => False
def WSliceP (n sz : Nat) (x : RX) (lo hi mx : Option RX) : Prop := match optX ρ lo with
  | some l => match optX ρ hi with
    | some u => match optX ρ mx with
      | some m => match ρ x with
        | some (.ptr b ver o) => ∃ el cs frz, h[b]? = some (.cells ver el cs frz) ∧ (o + n * sz ≤ cs.length ∧ 0 < n) ∧ ∃ v, sliceA sz (.sl sz b ver o n) l u m = some v ∧ K v h
        | _ => False
      | none => False
    | none => False
  | none => False
def WUData (x : RX) : Prop := match ρ x with
  | some (.lst 0 [] true) => K .nilp h
  | some (.sl _ b ver o len) => len ≠ 0 ∧ K (.ptr b ver o) h
  | _ => False
def WMM (mx : Bool) (x y : RX) : Prop := match ρ x with
  | some (.int k a) => match ρ y with
    | some (.int _ b) => ∃ z, cond mx (if b > a then b else a) (if b < a then b else a) = z ∧ K (.int k z) h
    | _ => False
  | _ => False
def mm2 (mx : Bool) (a b : Int) : Int := cond mx (if b > a then b else a) (if b < a then b else a)
def WMM3 (mx : Bool) (x y z : RX) : Prop := match ρ x with
  | some (.int k a) => match ρ y with
    | some (.int _ b) => match ρ z with
      | some (.int _ c) => ∃ z, mm2 mx (mm2 mx a b) c = z ∧ K (.int k z) h
      | _ => False
    | _ => False
  | _ => False
def WFieldAddr (off : Nat) (x : RX) : Prop := match ρ x with
  | some (.ptr b ver o) => K (.ptr b ver (o + off)) h
  | some (.pin cs o) => K (.pin cs (o + off)) h
  | _ => False
def WField (ag : Bool) (sz off : Nat) (x : RX) : Prop := match ρ x with
  | some (.agg cs) => WPart (K · h) (partR ag sz cs off)
  | _ => False
def WIndexAddrL (sz : Nat) (x ix : RX) : Prop := match ρ x with
  | some (.lst sz' xs _) => match ρ ix with
    | some (.int _ i) => 0 ≤ i ∧ sz' = sz ∧ ∃ y, xs[i.toNat]? = some y ∧ ∃ cs, y.cells? = some cs ∧ K (.pin cs 0) h
    | _ => False
  | some (.sl sz' b ver o len) => match ρ ix with
    | some (.int _ i) => 0 ≤ i ∧ i < len ∧ sz' = sz ∧ K (.ptr b ver (o + i.toNat * sz')) h
    | _ => False
  | _ => False
def WIndexAddrA (n sz : Nat) (x ix : RX) : Prop := match ρ ix with
  | some (.int _ i) => 0 ≤ i ∧ i < n ∧ (match ρ x with
    | some (.ptr b ver o) => K (.ptr b ver (o + i.toNat * sz)) h
    | some (.pin cs o) => K (.pin cs (o + i.toNat * sz)) h
    | _ => False)
  | _ => False
def WIndexS (x ix : RX) : Prop := match ρ x with
  | some (.str s) => match ρ ix with
    | some (.int _ i) => 0 ≤ i ∧ ∃ b, s[i.toNat]? = some b ∧ K (.int .u8 b.toNat) h
    | _ => False
  | _ => False
def WIndexA (ag : Bool) (n sz : Nat) (x ix : RX) : Prop := match ρ x with
  | some (.agg cs) => match ρ ix with
    | some (.int _ i) => 0 ≤ i ∧ i < n ∧ ∃ v, partR ag sz cs (i.toNat * sz) = some v ∧ K v h
    | _ => False
  | _ => False
def WExtract (x : RX) (i : Nat) : Prop := match ρ x with
  | some (.tup vs) => WPart (K · h) vs[i]?
  | _ => False
def WLenS (x : RX) : Prop := match ρ x with
  | some (.str s) => K (.int .i64 s.length) h
  | _ => False
def WLenL (x : RX) : Prop := match ρ x with
  | some (.lst _ xs _) => K (.int .i64 xs.length) h
  | some (.sl _ _ _ _ len) => K (.int .i64 len) h
  | _ => False
def WApp (e : TypeId) (sz : Nat) (s x : RX) : Prop := match ρ s with
  | some a => match ρ x with
    | some b => ∃ r, appR h e sz a b = r ∧ WpA K h r
    | none => False
  | none => False
def WCpy (sz : Nat) (s x : RX) : Prop := match ρ s with
  | some a => match ρ x with
    | some b => ∃ r, cpyR h sz a b = r ∧ WpA K h r
    | none => False
  | none => False
noncomputable def WCall (call : CallF) (g : FuncId) (args : List RX) (X : AV → AHeap → Prop) : Prop := match mapX ρ args with
  | some as => WpC call g as h K X
  | none => False
noncomputable def WCallV (P : Program) (call : CallF) (x : RX) (args : List RX) (X : AV → AHeap → Prop) : Prop := match ρ x with
  | some (.fn (.func g) a b) => match mapX ρ args with
    | some as => fnOk P g = true ∧ WpC call g (a ++ as ++ b) h K X
    | none => False
  | some (.fn (.yield b) [] []) => match mapX ρ args with
    | some as => WpC call (P.funcs.size + b) as h K X
    | none => False
  | _ => False
noncomputable def WInv (P : Program) (call : CallF) (x : RX) (name : String) (args : List RX) (X : AV → AHeap → Prop) : Prop := match ρ x with
  | some (.ifc t v) => match mapX ρ args with
    | some as => ∃ g, methA P t name = some g ∧ fnOk P g = true ∧ WpC call g (v :: as) h K X
    | none => False
  | _ => False
def WAsrt (t : TypeId) (ok z : Bool) (x : RX) : Prop := match ρ x with
  | some (.ifc t' v) => cond (Nat.beq t' t) (K (cond ok (.tup [v, .bool true]) v) h) (cond (ok && z) (K (.tup [.undef, .bool false]) h) False)
  | some .nili => cond (ok && z) (K (.tup [.undef, .bool false]) h) False
  | _ => False
def WS2A (n : Nat) (x : RX) : Prop := match ρ x with
  | some (.sl _ b ver o len) => n ≤ len ∧ K (.ptr b ver o) h
  | _ => False
def WLook (P : Program) (t : TypeId) (ok : Bool) (x k : RX) : Prop := match ρ x with
  | some a => match ρ k with
    | some b => ∃ v, lookA P h t a b ok = some v ∧ K v h
    | none => False
  | none => False
def WUpd (P : Program) (t : TypeId) (x k v : RX) : Prop := match ρ x with
  | some a => match ρ k with
    | some b => match ρ v with
      | some c => ∃ h', updA P h t a b c = some h' ∧ K .undef h'
      | none => False
    | none => False
  | none => False
def WUStr (e : TypeId) (p n : RX) : Prop := match ρ n with
  | some (.int .i64 k) => match ρ p with
    | some .nilp => k = 0 ∧ K (.str []) h
    | some (.ptr b ver 0) => 0 < k ∧ ∃ cs frz l, h[b]? = some (.cells ver (some e) cs frz) ∧ (k.toNat ≤ cs.length ∧ cs.length ≤ 1073741824) ∧ (cs.take k.toNat).all AV.byteB = true ∧ toBytes (cs.take k.toNat) = some l ∧ K (.str l) (h.set b (.cells ver (some e) cs (max frz k.toNat)))
    | _ => False
  | _ => False
def WToU (x : RX) : Prop := match ρ x with
  | some .nilp => K .nilp h
  | some (.ptr b ver o) => ∃ el cs frz, h[b]? = some (.cells ver el cs frz) ∧ o < cs.length ∧ K (.ptr b ver o) h
  | _ => False
def WCapL (x : RX) : Prop := match ρ x with
  | some (.lst _ xs true) => ∃ k : Nat, xs.length = k ∧ K (.int .i64 k) h
  | _ => False
def WMkNZ (e : TypeId) (x : RX) : Prop := match ρ x with
  | some (.int .i64 n) => 0 ≤ n ∧ n ≤ 1073741824 ∧ K (.sl 1 h.length 0 0 n.toNat) (h ++ [.cells 0 (some e) [] 0])
  | _ => False
def WFrU (P : Program) (u : TypeId) (x : RX) : Prop := match ρ x with
  | some .nilp => K .nilp h
  | some (.ptr b ver o) => ∃ el cs frz, h[b]? = some (.cells ver (some el) cs frz) ∧ liesAt P P.depth el (cs.length / P.cellsOf el) o u 1 = true ∧ K (.ptr b ver o) h
  | _ => False
/-- Operands of the program. -/
def evR (x : Operand) : Option AV := match resX x with
  | some a => ρ a
  | none => none
def known (x : Operand) : Bool := match resX x with
  | some a => (ρ a).isSome
  | none => true
def WRaw (P : Program) (call : CallF) (o : Oper) (X : AV → AHeap → Prop) : Prop :=
  o.op.operands.toList.all (known ρ) = true ∧ ∃ r h', stepV P call o (evR ρ) h = some (r, h') ∧ WpR K X h' r
end

noncomputable def WpO (P : Program) (call : CallF) (ρ : RX → Option AV) (o : RO) (h : AHeap) (K : AV → AHeap → Prop) (X : AV → AHeap → Prop) : Prop :=
  match o with
  | .mv x => WMv ρ h K x
  | .pick c a b => WPick ρ h K c a b
  | .alloc e z => K (.ptr h.length 0 0) (h ++ [.cells 0 (some e) z 0])
  | .box e x => WBox ρ h K e x
  | .build z ps => WBuild ρ h K z ps
  | .mkLst sz ag n z ps => WMkLst ρ h K sz ag n z ps
  | .load ag sz p => WLoad ρ h K ag sz p
  | .store sz p x => WStore ρ h K sz p x
  | .nilCheck x => WNil ρ h K x
  | .bin op x y => WBin ρ h K op x y
  | .cmp neg t x y => WCmp ρ h K P neg t x y
  | .isNil neg x => WIsNil ρ h K neg x
  | .isNilI neg x => WIsNilI ρ h K neg x
  | .un op x => WUn ρ h K op x
  | .toInt k x => WToInt ρ h K k x
  | .toStr x => WToStr ρ h K x
  | .strBytes x => WStrBytes ρ h K x
  | .bytesStr x => WBytesStr ρ h K x
  | .mkIfc t x => WMkIfc ρ h K t x
  | .mkFn f xs ys => WMkFn ρ h K f xs ys
  | .mkSl e sz z l c => WMkSl ρ h K e sz z l c
  | .sliceS x lo hi => WSliceS ρ h K x lo hi
  | .sliceL sz x lo hi mx => WSliceL ρ h K sz x lo hi mx
  | .sliceP n sz x lo hi mx => WSliceP ρ h K n sz x lo hi mx
  | .uData x => WUData ρ h K x
  | .mm mx x y => WMM ρ h K mx x y
  | .mm3 mx x y z => WMM3 ρ h K mx x y z
  | .fieldAddr off x => WFieldAddr ρ h K off x
  | .field ag sz off x => WField ρ h K ag sz off x
  | .indexAddrL sz x ix => WIndexAddrL ρ h K sz x ix
  | .indexAddrA n sz x ix => WIndexAddrA ρ h K n sz x ix
  | .indexS x ix => WIndexS ρ h K x ix
  | .indexA ag n sz x ix => WIndexA ρ h K ag n sz x ix
  | .extract x i => WExtract ρ h K x i
  | .lenS x => WLenS ρ h K x
  | .lenL x => WLenL ρ h K x
  | .lenA n => K (.int .i64 n) h
  | .app e sz s x => WApp ρ h K e sz s x
  | .cpy sz s x => WCpy ρ h K sz s x
  | .callF g args => WCall ρ h K call g args X
  | .callV x args => WCallV ρ h K P call x args X
  | .inv x name args => WInv ρ h K P call x name args X
  | .asrt t ok z x => WAsrt ρ h K t ok z x
  | .uStr e p n => WUStr ρ h K e p n
  | .toU x => WToU ρ h K x
  | .frU u x => WFrU ρ h K P u x
  | .capL x => WCapL ρ h K x
  | .mkNZ e x => WMkNZ ρ h K e x
  | .s2a n x => WS2A ρ h K n x
  | .mkMap => K (.map h.length) (h ++ [.map []])
  | .look t ok x k => WLook ρ h K P t ok x k
  | .upd t x k v => WUpd ρ h K P t x k v
  | .raw o => WRaw ρ h K P call o X

section
variable {P : Program} {call : CallF} {tm : Tm} {ρ : RX → Option AV} {h : AHeap} {K X : AV → AHeap → Prop}

theorem resX_ev {x : Operand} {a : RX} (hr : resX x = some a) : ev tm x = some (evX tm a) := by
  cases x with
  | tmp t => simp [resX] at hr; subst hr; rfl
  | const v =>
    simp [resX] at hr
    obtain ⟨w, h1, h2⟩ := hr
    subst h2; exact h1
  | global g => simp [resX] at hr
  | func f => simp [resX] at hr; subst hr; rfl

/-- What is looked up is what the frame has. -/
def Agree (ρ : RX → Option AV) (tm : Tm) : Prop := ∀ x a, ρ x = some a → evX tm x = a

theorem Agree.ev (hρ : Agree ρ tm) {x : Operand} {a : RX} {v : AV} (h1 : resX x = some a) (hx : ρ a = some v) : ev tm x = some v := by
  rw [resX_ev h1, hρ _ _ hx]

theorem Agree.map (hρ : Agree ρ tm) : ∀ {xs : List Operand} {as : List RX} {vs : List AV}, resXs xs = some as → mapX ρ as = some vs → mapM' (Abs.ev tm) xs = some vs
  | [], _, vs, h, hv => by simp [resXs] at h; subst h; simp [mapX_nil] at hv; subst hv; rfl
  | x :: xs, _, vs, h, hv => by
    unfold resXs at h
    split at h
    · rename_i a as h1 h2
      cases h
      rw [mapX_cons] at hv
      split at hv
      · rename_i v hx
        split at hv
        · rename_i vs' hvs
          cases hv
          unfold mapM'
          rw [hρ.ev h1 hx, hρ.map h2 hvs]
        · cases hv
      · cases hv
    · cases h

theorem Agree.opt (hρ : Agree ρ tm) {x : Option Operand} {a : Option RX} (hr : resXo x = some a) {l : Option Int} (ho : optX ρ a = some l) : optM (Abs.ev tm) x = some l := by
  cases x with
  | none => simp [resXo] at hr; subst hr; exact ho
  | some y =>
    simp [resXo] at hr
    obtain ⟨b, h1, h2⟩ := hr
    subst h2
    unfold optX at ho
    split at ho
    · cases ho; rename_i e; cases e
    · rename_i y' e
      cases e
      split at ho
      · rename_i k n he
        cases ho
        unfold optM
        simp only [hρ.ev h1 he]
      · cases ho

theorem Agree.fill (hρ : Agree ρ tm) {place : Nat → Option (Nat × Nat)} : ∀ {ps : List (Nat × Operand)} {qs : List (Nat × Nat × RX)} {cs cs' : List AV}, placesR place ps = some qs → fillR ρ cs qs = some cs' → ∃ l, partsM (Abs.ev tm) ps = some l ∧ fillA place cs l = some cs'
  | [], _, cs, cs', h1, h2 => by simp [placesR] at h1; subst h1; exact ⟨[], rfl, h2⟩
  | (i, x) :: ps, _, cs, cs', h1, h2 => by
    unfold placesR at h1
    split at h1
    · rename_i off sz a as e1 e2 e3
      cases h1
      rw [fillR_cons] at h2
      split at h2
      · rename_i v hv
        split at h2
        · rename_i xs hx
          split at h2
          · rename_i hc
            obtain ⟨l, g1, g2⟩ := hρ.fill e3 h2
            refine ⟨(i, v) :: l, ?_, ?_⟩
            · unfold partsM; rw [hρ.ev e2 hv, g1]
            · unfold fillA; simp only [e1, hx]; rw [if_pos hc]; exact g2
          · cases h2
        · cases h2
      · cases h2
    · cases h1

theorem stepV_val {ρ' : Operand → Option AV} {o : Oper} {v : AV} (he : exOp P ρ' h o = some (.val v)) (hk : K v h) : ∃ r h', stepV P call o ρ' h = some (r, h') ∧ WpR K X h' r :=
  ⟨.ret v, h, by simp [stepV, he], hk⟩
theorem stepV_valh {ρ' : Operand → Option AV} {o : Oper} {v : AV} {h' : AHeap} (he : exOp P ρ' h o = some (.valh v h')) (hk : K v h') : ∃ r h', stepV P call o ρ' h = some (r, h') ∧ WpR K X h' r :=
  ⟨.ret v, h', by simp [stepV, he], hk⟩
theorem stepV_res {ρ' : Operand → Option AV} {o : Oper} {q : Option (AV × Option AHeap)} (he : exOp P ρ' h o = ofRes q) (hk : WpA K h q) : ∃ r h', stepV P call o ρ' h = some (r, h') ∧ WpR K X h' r := by
  match q, hk with
  | some (v, none), hk => exact stepV_val he hk
  | some (v, some h'), hk => exact stepV_valh he hk

theorem WPart_some {K' : AV → Prop} {o : Option AV} (hw : WPart K' o) : ∃ v, o = some v ∧ K' v := by
  cases o
  · exact hw.elim
  · exact ⟨_, rfl, hw⟩

theorem partR_A {d : TI} {cs : List AV} {o : Nat} : partR (isAggD d.desc) d.size cs o = partA d cs o := by
  unfold partR partA; cases isAggD d.desc <;> rfl

theorem WpInt_sound {op : BinOp} {k k' : IntKind} {a b : Int} {K : AV → Prop} (hw : WpInt op k a k' b K) : ∃ v, binA op (.int k a) (.int k' b) = some v ∧ K v := by
  unfold WpInt at hw
  unfold binA
  cases op <;> simp only at hw ⊢
  case shl => obtain ⟨h1, z, h2, h3⟩ := hw; subst h2; rw [if_neg (by omega)]; exact ⟨_, rfl, h3⟩
  case shr => obtain ⟨h1, z, h2, h3⟩ := hw; subst h2; rw [if_neg (by omega)]; exact ⟨_, rfl, h3⟩
  all_goals
    split at hw
    · rename_i hk
      rw [if_neg (by simp [hk])]
      first
        | (obtain ⟨h1, z, h2, h3⟩ := hw; subst h2; rw [if_neg h1]; exact ⟨_, rfl, h3⟩)
        | (obtain ⟨z, h2, h3⟩ := hw; subst h2; exact ⟨_, rfl, h3⟩)
        | exact ⟨_, rfl, hw⟩
        | exact hw.elim
    · exact hw.elim

theorem WpStr_sound {op : BinOp} {x y : List UInt8} {K : AV → Prop} (hw : WpStr op x y K) : ∃ v, binA op (.str x) (.str y) = some v ∧ K v := by
  unfold WpStr at hw
  unfold binA
  cases op <;> simp only at hw ⊢
  case add => rw [if_pos hw.1]; exact ⟨_, rfl, hw.2⟩
  all_goals first | exact ⟨_, rfl, hw⟩ | exact hw.elim

theorem resOp_sound (hρ : Agree ρ tm) {o : Oper} {ro : RO} (hr : resOp P o = some ro) (hw : WpO P call ρ ro h K X) : ∃ r h', stepV P call o (ev tm) h = some (r, h') ∧ WpR K X h' r := by
  obtain ⟨dst, op, type, pos, aft, guard⟩ := o
  cases op
  all_goals unfold resOp at hr; simp only at hr
  case move x =>
    obtain ⟨a, h1, rfl⟩ := Option.map_eq_some_iff.1 hr
    unfold WpO WMv at hw
    simp only at hw
    split at hw
    · rename_i v hx; exact stepV_val (by simp only [exOp]; rw [hρ.ev h1 hx]; rfl) hw
    · exact hw.elim
  case assign x =>
    obtain ⟨a, h1, rfl⟩ := Option.map_eq_some_iff.1 hr
    unfold WpO WMv at hw
    simp only at hw
    split at hw
    · rename_i v hx; exact stepV_val (by simp only [exOp]; rw [hρ.ev h1 hx]; rfl) hw
    · exact hw.elim
  case pick c a b =>
    split at hr
    · rename_i c' a' b' h1 h2 h3
      cases hr
      unfold WpO WPick at hw
      simp only at hw
      split at hw
      · rename_i t ht
        have hc := hρ.ev h1 ht
        split at hw
        · rename_i v hv
          split at hw
          · rename_i u hu
            refine stepV_val (v := if t then v else u) (by simp only [exOp]; rw [hc, hρ.ev h2 hv, hρ.ev h3 hu]) ?_
            cases t <;> exact hw
          · obtain ⟨rfl, hw⟩ := hw
            refine stepV_val (v := v) (by simp only [exOp]; rw [hc, hρ.ev h2 hv, resX_ev h3]; simp) hw
        · split at hw
          · rename_i u hu
            obtain ⟨rfl, hw⟩ := hw
            refine stepV_val (v := u) (by simp only [exOp]; rw [hc, hρ.ev h3 hu, resX_ev h2]; simp) hw
          · exact hw.elim
      · exact hw.elim
    · cases hr
  case alloc e =>
    obtain ⟨d, h1, rfl⟩ := Option.map_eq_some_iff.1 hr
    exact stepV_valh (by simp only [exOp]; rw [h1]) hw
  case box e x =>
    obtain ⟨a, h1, rfl⟩ := Option.map_eq_some_iff.1 hr
    unfold WpO WBox at hw
    simp only at hw
    split at hw
    · rename_i v hv
      split at hw
      · rename_i cs hcs
        exact stepV_valh (by simp only [exOp]; rw [hρ.ev h1 hv]; simp only [hcs]) hw
      · exact hw.elim
    · exact hw.elim
  case build t ps =>
    split at hr
    · rename_i d hd
      split at hr
      · rename_i fs hfs
        split at hr
        · rename_i pl hpl
          obtain ⟨qs, h1, rfl⟩ := Option.map_eq_some_iff.1 hr
          unfold WpO WBuild at hw
          simp only at hw
          split at hw
          · rename_i cs hcs
            obtain ⟨l, g1, g2⟩ := hρ.fill h1 hcs
            exact stepV_val (by simp only [exOp]; rw [hd, g1]; simp only [hfs, hpl, g2]; rfl) hw
          · exact hw.elim
        · cases hr
      · rename_i k e hfs
        split at hr
        · rename_i de hde
          obtain ⟨qs, h1, rfl⟩ := Option.map_eq_some_iff.1 hr
          unfold WpO WBuild at hw
          simp only at hw
          split at hw
          · rename_i cs hcs
            obtain ⟨l, g1, g2⟩ := hρ.fill h1 hcs
            exact stepV_val (by simp only [exOp]; rw [hd, g1]; simp only [hfs, hde, g2]; rfl) hw
          · exact hw.elim
        · cases hr
      · cases hr
    · cases hr
  case buildSlice t n ps =>
    split at hr
    · rename_i e he
      split at hr
      · rename_i d hd
        split at hr
        · cases hr
        · rename_i hc
          obtain ⟨qs, h1, rfl⟩ := Option.map_eq_some_iff.1 hr
          unfold WpO WMkLst at hw
          simp only at hw
          split at hw
          · rename_i cs hcs
            obtain ⟨l, g1, g2⟩ := hρ.fill h1 hcs
            obtain ⟨hs, hw⟩ := hw
            simp only [not_or, Decidable.not_not] at hc
            obtain ⟨c1, c2, c3, c4⟩ := hc
            refine stepV_val (by simp only [exOp]; rw [he, g1]; simp only [hd]; rw [if_neg (by simp only [not_or, Decidable.not_not]; exact ⟨c1, c2, c3⟩)]; simp only [g2]; rw [if_pos ⟨hs, by by_cases q : isAggD d.desc = true; exact .inl q; exact .inr (Decidable.byContradiction fun q' => c4 ⟨q, q'⟩)⟩]) ?_
            unfold elemsA
            cases ha : isAggD d.desc <;> rw [ha] at hw <;> exact hw
          · exact hw.elim
      · cases hr
    · cases hr
  case load t p =>
    split at hr
    · rename_i d a hd ha
      cases hr
      unfold WpO WLoad at hw
      simp only [partR_A] at hw
      split at hw
      · rename_i b ver o hp
        obtain ⟨el, cs, frz, hb, hw⟩ := hw
        obtain ⟨v, hv, hw⟩ := WPart_some hw
        exact stepV_val (by simp only [exOp]; rw [hρ.ev ha hp]; simp only [loadA, hb, hd, if_true, hv]; rfl) hw
      · rename_i cs o hp
        obtain ⟨v, hv, hw⟩ := WPart_some hw
        exact stepV_val (by simp only [exOp]; rw [hρ.ev ha hp]; simp only [loadA, hd, hv]; rfl) hw
      · exact hw.elim
    · cases hr
  case store t p x =>
    split at hr
    · rename_i d a b hd ha hb
      cases hr
      unfold WpO WStore at hw
      simp only at hw
      split at hw
      · rename_i bb ver o hp
        split at hw
        · rename_i v hv
          obtain ⟨el, cs, frz, xs, hb', h1, h2, h3, h4, hw⟩ := hw
          exact stepV_valh (by simp only [exOp]; rw [hρ.ev ha hp, hρ.ev hb hv]; simp only [storeA, h1, hd, hb']; rw [if_pos ⟨trivial, h2, h3, h4⟩]; rfl) hw
        · exact hw.elim
      · exact hw.elim
    · cases hr
  case nilCheck x =>
    obtain ⟨a, h1, rfl⟩ := Option.map_eq_some_iff.1 hr
    unfold WpO WNil at hw
    simp only at hw
    split at hw
    · rename_i b v o hx; exact stepV_val (by simp only [exOp]; rw [hρ.ev h1 hx]) hw
    · rename_i cs o hx; exact stepV_val (by simp only [exOp]; rw [hρ.ev h1 hx]) hw
    · rename_i g y z hx; exact stepV_val (by simp only [exOp]; rw [hρ.ev h1 hx]) hw
    · rename_i t v hx; exact stepV_val (by simp only [exOp]; rw [hρ.ev h1 hx]) hw
    · exact hw.elim
  case binOp op t x y yt =>
    split at hr
    · rename_i d a b hd ha hb
      split at hr
      · cases hr
        unfold WpO WBin at hw
        simp only at hw
        split at hw
        · rename_i k i hx
          split at hw
          · rename_i k' j hy
            obtain ⟨v, h1, h2⟩ := WpInt_sound hw
            exact stepV_val (by simp only [exOp]; rw [hρ.ev ha hx, hρ.ev hb hy]; simp only [h1]; rfl) h2
          · exact hw.elim
        · rename_i s hx
          split at hw
          · rename_i s' hy
            obtain ⟨v, h1, h2⟩ := WpStr_sound hw
            exact stepV_val (by simp only [exOp]; rw [hρ.ev ha hx, hρ.ev hb hy]; simp only [h1]; rfl) h2
          · exact hw.elim
        · exact hw.elim
      · split at hr
        · rename_i hpn
          obtain ⟨e, rfl, rfl⟩ := ptrNil_iff hpn
          have hy : ev tm (.const (.pointer none)) = some .nilp := rfl
          cases op <;> simp only at hr <;> first
            | cases hr
            | skip
          all_goals
            unfold WpO WIsNil at hw
            simp only at hw
            split at hw
            · rename_i hx
              exact stepV_val (by simp only [exOp]; rw [hρ.ev ha hx, hy]; simp only [guardA, if_true, eqA, hd]; rfl) hw
            · rename_i hx
              exact stepV_val (by simp only [exOp]; rw [hρ.ev ha hx, hy]; simp only [guardA, if_true, eqA, hd]; rfl) hw
            · exact hw.elim
        · split at hr
          · rename_i hpn
            obtain ⟨e, rfl, rfl⟩ := ifcNil_iff hpn
            have hy : ev tm (.const .nilIface) = some .nili := rfl
            cases op <;> simp only at hr <;> first
              | cases hr
              | skip
            all_goals
              unfold WpO WIsNilI at hw
              simp only at hw
              split at hw
              · rename_i hx
                exact stepV_val (by simp only [exOp]; rw [hρ.ev ha hx, hy]; simp only [guardA, isConstO, Bool.or_true, if_true, eqA, hd]; rfl) hw
              · rename_i hx
                exact stepV_val (by simp only [exOp]; rw [hρ.ev ha hx, hy]; simp only [guardA, if_true, eqA, hd]; rfl) hw
              · exact hw.elim
          split at hr
          · cases hr
          · rename_i hg
            simp only [Bool.or_eq_true, not_or, Bool.not_eq_true] at hg
            cases op <;> simp only at hr <;> first
              | cases hr
              | skip
            all_goals
              unfold WpO WCmp at hw
              simp only at hw
              split at hw
              · rename_i xs hx
                split at hw
                · rename_i ys hy
                  obtain ⟨r, h1, h2⟩ := hw
                  exact stepV_val (by simp only [exOp]; rw [hρ.ev ha hx, hρ.ev hb hy]; simp only [guardA, hg.2, Bool.not_false, if_true, h1]; rfl) h2
                · exact hw.elim
              · rename_i xs hx
                split at hw
                · rename_i ys hy
                  obtain ⟨r, h1, h2⟩ := hw
                  exact stepV_val (by simp only [exOp]; rw [hρ.ev ha hx, hρ.ev hb hy]; simp only [guardA, if_true, h1]; rfl) h2
                · exact hw.elim
              · rename_i hx
                split at hw
                · rename_i hy
                  obtain ⟨r, h1, h2⟩ := hw
                  exact stepV_val (by simp only [exOp]; rw [hρ.ev ha hx, hρ.ev hb hy]; simp only [guardA, if_true, h1]; rfl) h2
                · exact hw.elim
              · exact hw.elim
    · cases hr
  case unOp op t x =>
    obtain ⟨a, h1, rfl⟩ := Option.map_eq_some_iff.1 hr
    unfold WpO WUn at hw
    simp only at hw
    split at hw
    · rename_i b hx
      cases op <;> simp only at hw <;> first | exact hw.elim | skip
      exact stepV_val (by simp only [exOp]; rw [hρ.ev h1 hx]; rfl) hw
    · rename_i k n hx
      cases op <;> simp only at hw <;> first | exact hw.elim | skip
      · obtain ⟨z, h2, h3⟩ := hw; subst h2; exact stepV_val (by simp only [exOp]; rw [hρ.ev h1 hx]; rfl) h3
      · obtain ⟨z, h2, h3⟩ := hw; subst h2; exact stepV_val (by simp only [exOp]; rw [hρ.ev h1 hx]; rfl) h3
    · exact hw.elim
  case convert s d x =>
    split at hr
    · rename_i k' k a hs hd ha
      cases hr
      unfold WpO WToInt at hw
      simp only at hw
      split at hw
      · rename_i k2 n hx
        obtain ⟨z, h2, h3⟩ := hw
        subst h2
        exact stepV_val (by simp only [exOp]; rw [hρ.ev ha hx]; simp only [convP, convA, hs, hd]; rfl) h3
      · exact hw.elim
    · rename_i a hs hd ha
      cases hr
      unfold WpO WToStr at hw
      simp only at hw
      split at hw
      · rename_i l hx
        exact stepV_val (by simp only [exOp]; rw [hρ.ev ha hx]; simp only [convP, convA, hs, hd]; rfl) hw
      · exact hw.elim
    · rename_i e a hs hd ha
      split at hr
      · rename_i he
        cases hr
        unfold WpO WStrBytes at hw
        simp only at hw
        split at hw
        · rename_i l hx
          exact stepV_valh (by simp only [exOp]; rw [hρ.ev ha hx]; simp only [convP, convA, hs, hd, he]; rfl) hw
        · exact hw.elim
      · cases hr
    · rename_i e a hs hd ha
      split at hr
      · rename_i he
        cases hr
        unfold WpO WBytesStr at hw
        simp only at hw
        split at hw
        · rename_i sz xs c hx
          obtain ⟨cs, l, h1, h2, h3⟩ := hw
          exact stepV_val (by simp only [exOp]; rw [hρ.ev ha hx]; simp only [convP, convA, hs, hd, he, lenA, h1, h2]; rfl) h3
        · rename_i sz b ver o n hx
          obtain ⟨cs, l, h1, h2, h3⟩ := hw
          exact stepV_val (by simp only [exOp]; rw [hρ.ev ha hx]; simp only [convP, convA, hs, hd, he, lenA, h1, h2]; rfl) h3
        · exact hw.elim
      · cases hr
    · rename_i t a hs hd ha
      split at hr
      · rename_i dd hdd
        split at hr
        · cases hr
        · rename_i hz
          cases hr
          unfold WpO WToU at hw
          simp only at hw
          split at hw
          · rename_i hx
            exact stepV_val (by simp only [exOp]; rw [hρ.ev ha hx]; simp only [convP, hs, hd]) hw
          · rename_i b ver o hx
            obtain ⟨el, cs, frz, g1, g2, g3⟩ := hw
            exact stepV_val (by simp only [exOp]; rw [hρ.ev ha hx]; simp only [convP, hs, hd, g1, hdd]; rw [if_pos ⟨trivial, hz, g2⟩]) g3
          · exact hw.elim
      · cases hr
    · rename_i u a hs hd ha
      split at hr
      · rename_i hz
        cases hr
        obtain ⟨dd, hdd⟩ := Option.isSome_iff_exists.1 hz
        unfold WpO WFrU at hw
        simp only at hw
        split at hw
        · rename_i hx
          exact stepV_val (by simp only [exOp]; rw [hρ.ev ha hx]; simp only [convP, hs, hd]) hw
        · rename_i b ver o hx
          obtain ⟨el, cs, frz, g1, g2, g3⟩ := hw
          exact stepV_val (by simp only [exOp]; rw [hρ.ev ha hx]; simp only [convP, hs, hd, g1, hdd]; rw [if_pos ⟨trivial, g2⟩]) g3
        · exact hw.elim
      · cases hr
    · cases hr
  case typeAssert x b t ok =>
    split at hr
    · cases hr
    · rename_i d a hne hd ha
      cases hr
      have hne' : ∀ w, P.underlying t ≠ some (.interface w) := fun w e => by rw [hd] at e; exact hne w (Option.some.inj e)
      unfold WpO WAsrt at hw
      simp only at hw
      have fails : ∀ x', ev tm x = some x' → (x' = .nili ∨ ∃ t' v, x' = .ifc t' v ∧ t' ≠ t) → cond (ok && (ti P t).isSome) (K (.tup [.undef, .bool false]) h) False → exOp P (ev tm) h ⟨dst, .typeAssert x b t ok, type, pos, aft, guard⟩ = some (.val (.tup [.undef, .bool false])) ∧ K (.tup [.undef, .bool false]) h := fun x' hx hc hk => by
        cases ok with
        | false => exact hk.elim
        | true =>
          cases hz : (ti P t).isSome with
          | false => rw [hz] at hk; exact hk.elim
          | true =>
            rw [hz] at hk
            refine ⟨?_, hk⟩
            simp only [exOp]
            rw [hx]
            simp only [assertA]
            rcases hc with rfl | ⟨t', v, rfl, hc⟩
            · split
              · rename_i w e; exact (hne' _ e).elim
              · simp [hz]
              · rename_i e; rw [hd] at e; cases e
            · split
              · rename_i w e; exact (hne' _ e).elim
              · simp [hz, hc]
              · rename_i e; rw [hd] at e; cases e
      split at hw
      · rename_i t' v hx
        cases hq : Nat.beq t' t with
        | true =>
          rw [hq] at hw
          have : t' = t := Nat.eq_of_beq_eq_true hq
          subst this
          refine stepV_val ?_ hw
          simp only [exOp]
          rw [hρ.ev ha hx]
          simp only [assertA]
          split
          · rename_i w e; exact (hne' _ e).elim
          · cases ok <;> simp
          · rename_i e; rw [hd] at e; cases e
        | false =>
          rw [hq] at hw
          obtain ⟨g1, g2⟩ := fails _ (hρ.ev ha hx) (.inr ⟨_, _, rfl, Nat.ne_of_beq_eq_false hq⟩) hw
          exact stepV_val g1 g2
      · rename_i hx
        obtain ⟨g1, g2⟩ := fails _ (hρ.ev ha hx) (.inl rfl) hw
        exact stepV_val g1 g2
      · exact hw.elim
    · cases hr
  case makeInterface t x =>
    split at hr
    · cases hr
    · rename_i d a hne hd ha
      cases hr
      unfold WpO WMkIfc at hw
      simp only at hw
      split at hw
      · rename_i v hx
        refine stepV_val ?_ hw
        simp only [exOp]
        rw [hρ.ev ha hx]
        split
        · rename_i e; rw [hd] at e; exact (hne _ (Option.some.inj e)).elim
        · rename_i e1 e2; cases e2; rfl
        · rename_i h1 h2; exact (h2 _ _ hd rfl).elim
      · exact hw.elim
    · cases hr
  case makeFunc f xs ys =>
    split at hr
    · rename_i a b ha hb
      split at hr
      · cases hr
      · rename_i hf
        cases hr
        unfold WpO WMkFn at hw
        simp only at hw
        split at hw
        · rename_i va hva
          split at hw
          · rename_i vb hvb
            exact stepV_val (by simp only [exOp]; rw [hρ.map ha hva, hρ.map hb hvb]; simp only [hf]; rfl) hw
          · exact hw.elim
        · exact hw.elim
    · cases hr
  case makeSlice t l c =>
    split at hr
    · rename_i e a b he ha hb
      split at hr
      · rename_i d hd
        split at hr
        · rename_i hc
          cases hr
          unfold WpO WMkSl at hw
          simp only at hw
          split at hw
          · rename_i k1 n1 hx
            split at hw
            · rename_i k2 n2 hy
              obtain ⟨g1, g2, g3, g4⟩ := hw
              exact stepV_valh (by simp only [exOp]; rw [he, hρ.ev ha hx, hρ.ev hb hy]; simp only [hd]; rw [if_pos ⟨g1, g2, g3, hc.1, hc.2.1, hc.2.2⟩]) g4
            · exact hw.elim
          · exact hw.elim
        · cases hr
      · cases hr
    · cases hr
  case slice t x lo hi mx =>
    split at hr
    · rename_i a l u ht ha hl hu hm
      cases hr
      unfold WpO WSliceS at hw
      simp only at hw
      split at hw
      · rename_i s hx
        split at hw
        · rename_i l' ho
          split at hw
          · rename_i u' hq
            obtain ⟨g1, g2, g3, t, rfl, g4⟩ := hw
            exact stepV_val (by simp only [exOp]; rw [hρ.ev ha hx, hρ.opt hl ho, hρ.opt hu hq, hρ.opt hm (l := none) rfl, ht]; simp only [sliceA]; rw [if_pos ⟨rfl, g1, g2, g3⟩]; rfl) g4
          · exact hw.elim
        · exact hw.elim
      · exact hw.elim
    · rename_i e a l u m ht ha hl hu hm
      split at hr
      · rename_i de hde
        cases hr
        unfold WpO WSliceL at hw
        simp only at hw
        split at hw
        · rename_i l' ho
          split at hw
          · rename_i u' hq
            split at hw
            · rename_i m' hr'
              split at hw
              · rename_i sz' xs c0 hx
                obtain ⟨v, h1, h2⟩ := hw
                exact stepV_val (by simp only [exOp]; rw [hρ.ev ha hx, hρ.opt hl ho, hρ.opt hu hq, hρ.opt hm hr', ht]; simp only [hde, h1]; rfl) h2
              · rename_i sz' b ver o n hx
                obtain ⟨v, h1, h2⟩ := hw
                exact stepV_val (by simp only [exOp]; rw [hρ.ev ha hx, hρ.opt hl ho, hρ.opt hu hq, hρ.opt hm hr', ht]; simp only [hde, h1]; rfl) h2
              · exact hw.elim
            · exact hw.elim
          · exact hw.elim
        · exact hw.elim
      · cases hr
    · rename_i n e a l u m ht ha hl hu hm
      split at hr
      · rename_i de hde
        cases hr
        unfold WpO WSliceP at hw
        simp only at hw
        split at hw
        · rename_i l' ho
          split at hw
          · rename_i u' hq
            split at hw
            · rename_i m' hr'
              split at hw
              · rename_i b ver o hx
                obtain ⟨el, cs, frz, hb, hc, v, h1, h2⟩ := hw
                exact stepV_val (by simp only [exOp]; rw [hρ.ev ha hx, hρ.opt hl ho, hρ.opt hu hq, hρ.opt hm hr', ht]; simp only [hde, hb]; rw [if_pos ⟨trivial, hc.1, hc.2⟩, h1]; rfl) h2
              · exact hw.elim
            · exact hw.elim
          · exact hw.elim
        · exact hw.elim
      · cases hr
    · cases hr
  case fieldAddr t x i =>
    split at hr
    · rename_i fs a ht ha
      split at hr
      · rename_i f hf
        split at hr
        · rename_i d hd
          split at hr
          · cases hr
          · rename_i hz
            cases hr
            unfold WpO WFieldAddr at hw
            simp only at hw
            split at hw
            · rename_i b ver o hx
              exact stepV_val (by simp only [exOp]; rw [ht, hρ.ev ha hx]; simp only [hf, hd]; rw [if_neg hz]) hw
            · rename_i cs o hx
              exact stepV_val (by simp only [exOp]; rw [ht, hρ.ev ha hx]; simp only [hf, hd]; rw [if_neg hz]) hw
            · exact hw.elim
        · cases hr
      · cases hr
    · cases hr
  case field t x i =>
    split at hr
    · rename_i fs a ht ha
      split at hr
      · rename_i f hf
        split at hr
        · rename_i d hd
          cases hr
          unfold WpO WField at hw
          simp only [partR_A] at hw
          split at hw
          · rename_i cs hx
            obtain ⟨v, hv, hw⟩ := WPart_some hw
            exact stepV_val (by simp only [exOp]; rw [ht, hρ.ev ha hx]; simp only [hf, hd, hv]; rfl) hw
          · exact hw.elim
        · cases hr
      · cases hr
    · cases hr
  case indexAddr t x ix =>
    split at hr
    · rename_i e a b ht ha hb
      split at hr
      · rename_i d hd
        cases hr
        unfold WpO WIndexAddrL at hw
        simp only at hw
        split at hw
        · rename_i sz' xs c0 hx
          split at hw
          · rename_i k i hi
            obtain ⟨g1, g2, y, g3, cs, g4, g5⟩ := hw
            exact stepV_val (by simp only [exOp]; rw [ht, hρ.ev ha hx, hρ.ev hb hi]; simp only [hd]; rw [if_pos ⟨g1, g2⟩]; simp only [g3, g4]; rfl) g5
          · exact hw.elim
        · rename_i sz' b' ver o len hx
          split at hw
          · rename_i k i hi
            obtain ⟨g1, g2, g3, g4⟩ := hw
            exact stepV_val (by simp only [exOp]; rw [ht, hρ.ev ha hx, hρ.ev hb hi]; simp only [hd]; rw [if_pos ⟨g1, g2, g3⟩]) g4
          · exact hw.elim
        · exact hw.elim
      · cases hr
    · rename_i n e a b ht ha hb
      split at hr
      · rename_i d hd
        cases hr
        unfold WpO WIndexAddrA at hw
        simp only at hw
        split at hw
        · rename_i k i hi
          obtain ⟨g1, g2, hw⟩ := hw
          split at hw
          · rename_i b' ver o hx
            exact stepV_val (by simp only [exOp]; rw [ht, hρ.ev ha hx, hρ.ev hb hi]; simp only [hd]; rw [if_pos ⟨g1, g2⟩]) hw
          · rename_i cs o hx
            exact stepV_val (by simp only [exOp]; rw [ht, hρ.ev ha hx, hρ.ev hb hi]; simp only [hd]; rw [if_pos ⟨g1, g2⟩]) hw
          · exact hw.elim
        · exact hw.elim
      · cases hr
    · cases hr
  case index t x ix =>
    split at hr
    · rename_i a b ht ha hb
      cases hr
      unfold WpO WIndexS at hw
      simp only at hw
      split at hw
      · rename_i s hx
        split at hw
        · rename_i k i hi
          obtain ⟨g1, b', g2, g3⟩ := hw
          exact stepV_val (by simp only [exOp]; rw [ht, hρ.ev ha hx, hρ.ev hb hi]; simp only; rw [if_pos g1]; simp only [g2]) g3
        · exact hw.elim
      · exact hw.elim
    · rename_i n e a b ht ha hb
      split at hr
      · rename_i d hd
        cases hr
        unfold WpO WIndexA at hw
        simp only [partR_A] at hw
        split at hw
        · rename_i cs hx
          split at hw
          · rename_i k i hi
            obtain ⟨g1, g2, v, g3, g4⟩ := hw
            exact stepV_val (by simp only [exOp]; rw [ht, hρ.ev ha hx, hρ.ev hb hi]; simp only; rw [if_pos ⟨g1, g2⟩]; simp only [hd, g3]; rfl) g4
          · exact hw.elim
        · exact hw.elim
      · cases hr
    · cases hr
  case sliceToArrayPointer t x =>
    split at hr
    · rename_i n e a ht ha
      cases hr
      unfold WpO WS2A at hw
      simp only at hw
      split at hw
      · rename_i sz b ver o len hx
        obtain ⟨g1, g2⟩ := hw
        exact stepV_val (by simp only [exOp]; rw [ht, hρ.ev ha hx]; simp only; rw [if_pos g1]) g2
      · exact hw.elim
    · cases hr
  case makeMap t r =>
    split at hr
    · rename_i kt e ht
      cases hr
      unfold WpO at hw
      exact stepV_valh (by simp only [exOp]; rw [ht]) hw
    · cases hr
  case lookup t x k ok =>
    split at hr
    · rename_i a b ha hb
      cases hr
      unfold WpO WLook at hw
      simp only at hw
      split at hw
      · rename_i a' hx
        split at hw
        · rename_i b' hy
          obtain ⟨v, g1, g2⟩ := hw
          exact stepV_val (by simp only [exOp]; rw [hρ.ev ha hx, hρ.ev hb hy]; simp only [g1]; rfl) g2
        · exact hw.elim
      · exact hw.elim
    · cases hr
  case mapUpdate t x k v =>
    split at hr
    · rename_i a b c ha hb hc
      cases hr
      unfold WpO WUpd at hw
      simp only at hw
      split at hw
      · rename_i a' hx
        split at hw
        · rename_i b' hy
          split at hw
          · rename_i c' hz
            obtain ⟨h', g1, g2⟩ := hw
            exact stepV_valh (by simp only [exOp]; rw [hρ.ev ha hx, hρ.ev hb hy, hρ.ev hc hz]; simp only [g1]; rfl) g2
          · exact hw.elim
        · exact hw.elim
      · exact hw.elim
    · cases hr
  case insert t x k v =>
    split at hr
    · rename_i a b c ha hb hc
      cases hr
      unfold WpO WUpd at hw
      simp only at hw
      split at hw
      · rename_i a' hx
        split at hw
        · rename_i b' hy
          split at hw
          · rename_i c' hz
            obtain ⟨h', g1, g2⟩ := hw
            exact stepV_valh (by simp only [exOp]; rw [hρ.ev ha hx, hρ.ev hb hy, hρ.ev hc hz]; simp only [g1]; rfl) g2
          · exact hw.elim
        · exact hw.elim
      · exact hw.elim
    · cases hr
  case extract x i =>
    obtain ⟨a, h1, rfl⟩ := Option.map_eq_some_iff.1 hr
    unfold WpO WExtract at hw
    simp only at hw
    split at hw
    · rename_i vs hx
      obtain ⟨v, hv, hw⟩ := WPart_some hw
      exact stepV_val (by simp only [exOp]; rw [hρ.ev h1 hx]; simp only [hv]; rfl) hw
    · exact hw.elim
  case call c =>
    obtain ⟨callee, args, ats⟩ := c
    simp only at hr
    split at hr
    · split at hr
      · rename_i t x hts hxs
        split at hr
        · rename_i a ht ha
          cases hr
          unfold WpO WLenS at hw
          simp only at hw
          split at hw
          · rename_i s hx
            exact stepV_val (by simp only [exOp, hxs, mapM']; rw [hρ.ev ha hx]; simp only [hts, builtinA, ht]) hw
          · exact hw.elim
        · rename_i n e a ht ha
          cases hr
          exact stepV_val (by simp only [exOp, hxs, mapM']; rw [resX_ev ha]; simp only [hts, builtinA, ht]) hw
        · rename_i e a ht ha
          cases hr
          unfold WpO WLenL at hw
          simp only at hw
          split at hw
          · rename_i sz xs c hx
            exact stepV_val (by simp only [exOp, hxs, mapM']; rw [hρ.ev ha hx]; simp only [hts, builtinA, ht]) hw
          · rename_i sz b ver o len hx
            exact stepV_val (by simp only [exOp, hxs, mapM']; rw [hρ.ev ha hx]; simp only [hts, builtinA, ht]) hw
          · exact hw.elim
        · cases hr
      · cases hr
    · split at hr
      · rename_i t t2 s x hts hxs
        split at hr
        · cases hr
        · rename_i e d2 a b hne ht ht2 ha hb
          split at hr
          · rename_i d hd
            split at hr
            · cases hr
            · rename_i hc
              cases hr
              unfold WpO WApp at hw
              simp only at hw
              split at hw
              · rename_i va hva
                split at hw
                · rename_i vb hvb
                  obtain ⟨r, g1, g2⟩ := hw
                  subst g1
                  have e1 : builtinA P h .append ats.toList [va, vb] = ofRes (appR h e d.size va vb) := by
                    rw [hts]
                    have e2 : ([t, t2] : List TypeId).getD 1 0 = t2 := rfl
                    simp only [builtinA, ht, e2, ht2]
                    have e3 : appendA P h e va vb = appR h e d.size va vb := by
                      unfold appendA appR
                      rw [hd]
                      cases hl : lenA vb with
                      | none => rfl
                      | some n =>
                        simp only
                        rw [if_neg hc]
                        cases firstA h d.size n vb with
                        | none => rfl
                        | some ys => cases va <;> first | rfl | (rename_i c; cases c <;> rfl)
                    rw [e3]
                  refine stepV_res (q := appR h e d.size va vb) ?_ g2
                  simp only [exOp, hxs, mapM']
                  rw [hρ.ev ha hva, hρ.ev hb hvb]
                  simp only [e1]
                  cases hq : appR h e d.size va vb with
                  | none => rw [hq] at g2; exact g2.elim
                  | some q => obtain ⟨v, o⟩ := q; cases o <;> rfl
                · exact hw.elim
              · exact hw.elim
          · cases hr
        · cases hr
      · cases hr
    · split at hr
      · rename_i t ts s x hts hxs
        split at hr
        · rename_i e a b ht ha hb
          split at hr
          · rename_i d hd
            cases hr
            unfold WpO WCpy at hw
            simp only at hw
            split at hw
            · rename_i va hva
              split at hw
              · rename_i vb hvb
                obtain ⟨r, g1, g2⟩ := hw
                subst g1
                have e3 : copyA P h e va vb = cpyR h d.size va vb := by
                  unfold copyA cpyR
                  rw [hd]
                  simp only
                  cases slLen va <;> cases lenA vb <;> rfl
                refine stepV_res (q := cpyR h d.size va vb) ?_ g2
                simp only [exOp, hxs, mapM']
                rw [hρ.ev ha hva, hρ.ev hb hvb]
                simp only [hts, builtinA, ht, e3]
                cases hq : cpyR h d.size va vb with
                | none => rw [hq] at g2; exact g2.elim
                | some q => obtain ⟨v, o⟩ := q; cases o <;> rfl
              · exact hw.elim
            · exact hw.elim
          · cases hr
        · cases hr
      · cases hr
    · split at hr
      · rename_i x hxs
        obtain ⟨b, h1, rfl⟩ := Option.map_eq_some_iff.1 hr
        unfold WpO WUData at hw
        simp only at hw
        split at hw
        · rename_i hx
          exact stepV_val (by simp only [exOp, hxs, mapM']; rw [hρ.ev h1 hx]; rfl) hw
        · rename_i sz b' ver o len hx
          obtain ⟨g1, g2⟩ := hw
          exact stepV_val (by simp only [exOp, hxs, mapM']; rw [hρ.ev h1 hx]; simp only [builtinA, extraB]; rw [if_pos g1]) g2
        · exact hw.elim
      · cases hr
    · split at hr
      · rename_i x y hxs
        split at hr
        · rename_i a b ha hb
          cases hr
          unfold WpO WMM at hw
          simp only at hw
          split at hw
          · rename_i k i hx
            split at hw
            · rename_i k' j hy
              obtain ⟨z, rfl, hw⟩ := hw
              exact stepV_val (by simp only [exOp, hxs, mapM']; rw [hρ.ev ha hx, hρ.ev hb hy]; rfl) hw
            · exact hw.elim
          · exact hw.elim
        · cases hr
      · rename_i x y z hxs
        split at hr
        · rename_i a b c ha hb hc
          cases hr
          unfold WpO WMM3 at hw
          simp only at hw
          split at hw
          · rename_i k i hx
            split at hw
            · rename_i k' j hy
              split at hw
              · rename_i k'' l hz
                obtain ⟨z, rfl, hw⟩ := hw
                exact stepV_val (by simp only [exOp, hxs, mapM']; rw [hρ.ev ha hx, hρ.ev hb hy, hρ.ev hc hz]; rfl) hw
              · exact hw.elim
            · exact hw.elim
          · exact hw.elim
        · cases hr
      · cases hr
    · split at hr
      · rename_i x y hxs
        split at hr
        · rename_i a b ha hb
          cases hr
          unfold WpO WMM at hw
          simp only at hw
          split at hw
          · rename_i k i hx
            split at hw
            · rename_i k' j hy
              obtain ⟨z, rfl, hw⟩ := hw
              exact stepV_val (by simp only [exOp, hxs, mapM']; rw [hρ.ev ha hx, hρ.ev hb hy]; rfl) hw
            · exact hw.elim
          · exact hw.elim
        · cases hr
      · rename_i x y z hxs
        split at hr
        · rename_i a b c ha hb hc
          cases hr
          unfold WpO WMM3 at hw
          simp only at hw
          split at hw
          · rename_i k i hx
            split at hw
            · rename_i k' j hy
              split at hw
              · rename_i k'' l hz
                obtain ⟨z, rfl, hw⟩ := hw
                exact stepV_val (by simp only [exOp, hxs, mapM']; rw [hρ.ev ha hx, hρ.ev hb hy, hρ.ev hc hz]; rfl) hw
              · exact hw.elim
            · exact hw.elim
          · exact hw.elim
        · cases hr
      · cases hr
    · split at hr
      · rename_i t x hts hxs
        split at hr
        · rename_i e a ht ha
          cases hr
          unfold WpO WCapL at hw
          simp only at hw
          split at hw
          · rename_i sz xs hx
            obtain ⟨k, rfl, hw⟩ := hw
            exact stepV_val (by simp only [exOp, hxs, mapM']; rw [hρ.ev ha hx]; simp only [hts, builtinA, extraB, ht]) hw
          · exact hw.elim
        · cases hr
      · cases hr
    · split at hr
      · rename_i pt t2 p n hts hxs
        split at hr
        · rename_i e a b ht ha hb
          split at hr
          · rename_i d hd
            split at hr
            · rename_i hz
              cases hr
              unfold WpO WUStr at hw
              simp only at hw
              split at hw
              · rename_i k hn
                split at hw
                · rename_i hp
                  obtain ⟨rfl, g2⟩ := hw
                  exact stepV_val (by simp only [exOp, hxs, mapM']; rw [hρ.ev ha hp, hρ.ev hb hn]; simp only [hts, builtinA, extraB, if_true]) g2
                · rename_i bb ver hp
                  obtain ⟨g0, cs, frz, l, g1, g2, g3, g4, g5⟩ := hw
                  exact stepV_valh (by simp only [exOp, hxs, mapM']; rw [hρ.ev ha hp, hρ.ev hb hn]; simp only [hts, builtinA, extraB]; rw [if_neg (show ¬ k = 0 by omega)]; simp only [ht, g1, hd]; rw [if_pos ⟨trivial, trivial, hz, g0, g2.1, g2.2, g3⟩, g4]; rfl) g5
                · exact hw.elim
              · exact hw.elim
            · cases hr
          · cases hr
        · cases hr
      · cases hr
    · rename_i g
      split at hr
      · rename_i as has
        split at hr
        · rename_i hf
          cases hr
          unfold WpO WCall at hw
          simp only at hw
          split at hw
          · rename_i vs hvs
            obtain ⟨r, h', g1, g2⟩ := hw
            refine ⟨r, h', ?_, g2⟩
            unfold stepV
            simp only [exOp]
            rw [hρ.map has hvs]
            simp only [ev, hf, if_true, List.nil_append, List.append_nil]
            exact g1
          · exact hw.elim
        · rename_i hf
          split at hr
          · rename_i hg
            split at hr
            · rename_i a
              cases hr
              unfold WpO WMv at hw
              simp only at hw
              split at hw
              · rename_i v hv
                refine stepV_val ?_ hw
                simp only [exOp]
                rw [hρ.map has (show mapX ρ [a] = some [v] by rw [mapX_cons, hv, mapX_nil])]
                simp only [ev, List.nil_append, List.append_nil]
                rw [if_neg hf]
                exact isNoEsc_ext hg
              · exact hw.elim
            · cases hr
          · split at hr
            · rename_i e a hg
              cases hr
              unfold WpO WMkNZ at hw
              simp only at hw
              split at hw
              · rename_i k hv
                obtain ⟨h0, h1, hw⟩ := hw
                refine stepV_valh ?_ hw
                simp only [exOp]
                rw [hρ.map has (show mapX ρ [a] = some [.int .i64 k] by rw [mapX_cons, hv, mapX_nil])]
                simp only [ev, List.nil_append, List.append_nil]
                rw [if_neg hf]
                exact isMkNZ_ext hg h0 h1
              · exact hw.elim
            · cases hr
      · cases hr
    · rename_i t
      split at hr
      · rename_i as has
        cases hr
        unfold WpO WCallV at hw
        simp only at hw
        split at hw
        · rename_i g a b hx
          split at hw
          · rename_i vs hvs
            obtain ⟨hf, r, h', g1, g2⟩ := hw
            refine ⟨r, h', ?_, g2⟩
            unfold stepV
            simp only [exOp]
            rw [hρ.map has hvs, hρ.ev (x := .tmp t) rfl hx]
            simp only [hf, if_true]
            exact g1
          · exact hw.elim
        · rename_i b hx
          split at hw
          · rename_i vs hvs
            obtain ⟨r, h', g1, g2⟩ := hw
            refine ⟨r, h', ?_, g2⟩
            unfold stepV
            simp only [exOp]
            rw [hρ.map has hvs, hρ.ev (x := .tmp t) rfl hx]
            exact g1
          · exact hw.elim
        · exact hw.elim
      · cases hr
    · rename_i x name
      split at hr
      · rename_i a as ha has
        cases hr
        unfold WpO WInv at hw
        simp only at hw
        split at hw
        · rename_i t v hx
          split at hw
          · rename_i vs hvs
            obtain ⟨g, g1, g2, r, h', g3, g4⟩ := hw
            refine ⟨r, h', ?_, g4⟩
            unfold stepV
            simp only [exOp]
            rw [hρ.map has hvs, hρ.ev ha hx]
            simp only [g1, g2, if_true]
            exact g3
          · exact hw.elim
        · exact hw.elim
      · cases hr
    · cases hr
  all_goals cases hr

theorem WpO_sound (hρ : Agree ρ tm) {o : Oper} (hw : WpO P call ρ (resO P o) h K X) : ∃ r h', stepV P call o (ev tm) h = some (r, h') ∧ WpR K X h' r := by
  unfold resO at hw
  cases hr : resOp P o with
  | none =>
    rw [hr] at hw
    obtain ⟨hk, r, h', h1, h2⟩ := hw
    refine ⟨r, h', ?_, h2⟩
    unfold stepV at h1 ⊢
    rw [exOp_congr (ρ' := evR ρ)]
    · exact h1
    · intro x hx
      have := List.all_eq_true.1 hk x (Array.mem_toList_iff.2 hx)
      unfold known at this
      unfold evR
      cases hx' : resX x with
      | none =>
        cases x with
        | tmp t => simp [resX] at hx'
        | const v => simp [resX] at hx'; exact hx'
        | global g => rfl
        | func f => simp [resX] at hx'
      | some a =>
        rw [hx'] at this
        simp only at this ⊢
        cases ha : ρ a with
        | none => rw [ha] at this; cases this
        | some v => exact hρ.ev hx' ha
  | some ro => rw [hr] at hw; exact resOp_sound hρ hr hw
end
end Go.Abs
/- Statements and calls, with all that the program fixes looked up: what has to hold for a run to end well. -/
set_option linter.unusedVariables false
set_option linter.unusedSimpArgs false
namespace Go.Abs

/-- What a statement does, but for operations that look at nothing but values. -/
inductive RK where
  | op (o : RO)
  | dfr (c : Call)
  | pan (x : RX)
  deriving Inhabited

structure RI where
  dst : Option Tmp
  guard : Option (Nat × Bool)
  op : RK
  deriving Inhabited

inductive RC where
  | skip
  | ret
  | exit (id : Nat)
  | ops (l : List RI)
  | draw (l : List (RI × Nat))
  | seq (a b : RC)
  | cond (c : RX) (a b : RC)
  | block (id : Nat) (c : RC)
  | loop (c : RC)
  | rangeF (g : RX) (ps : List Tmp) (asg body : RC)
  | cut (c : RC)
  | raw (c : Code)
  deriving Inhabited

def resK (P : Program) (o : Oper) : RK :=
  match o.op with
  | .defer c => .dfr c
  | .panic x => match resX x with
    | some a => .pan a
    | none => .op (.raw o)
  | _ => .op (resO P o)

def resI (P : Program) (ops : Array Oper) (o : Oper) : Option RI :=
  match o.guard with
  | none => some ⟨o.dst, none, resK P o⟩
  | some (j, want) => match (ops[j]?).bind (·.dst) with
    | none => none
    | some d => some ⟨o.dst, some (d, want), resK P o⟩

def resIs (P : Program) (ops : Array Oper) : List Oper → Option (List RI)
  | [] => some []
  | o :: r => match resI P ops o, resIs P ops r with
    | some a, some as => some (a :: as)
    | _, _ => none

def resD (P : Program) (ops : Array Oper) : List (Nat × Nat) → Option (List (RI × Nat))
  | [] => some []
  | (i, k) :: r => match ops[i]? with
    | none => none
    | some o => match resI P ops o, resD P ops r with
      | some a, some as => some ((a, k) :: as)
      | _, _ => none

/-- All that a region writes is written by a list. -/
def coverD (ops : List Oper) (l : List (RI × Nat)) : Bool := ops.all fun o => match o.dst with
  | none => true
  | some d => l.any fun p => match p.1.dst with
    | some e => Nat.beq e d
    | none => false

def resC (P : Program) (inl : FuncId → Bool) : Code → RC
  | .skip => .skip
  | .ret => .ret
  | .exit i => .exit i
  | .region id ops d => if d then
      (match sched P inl ops ops.size (Array.replicate ops.size false) [] with
      | some order => if P.follows .mixedOrders && Region.noSelect ops then match resD P ops order with
          | some l => if coverD ops.toList l then .draw l else .raw (.region id ops d)
          | none => .raw (.region id ops d)
          else .raw (.region id ops d)
      | none => .raw (.region id ops d))
    else match resIs P ops ops.toList with
      | some l => .ops l
      | none => .raw (.region id ops d)
  | .seq a b => .seq (resC P inl a) (resC P inl b)
  | .cond c a b => match resX c with
    | some x => .cond x (resC P inl a) (resC P inl b)
    | none => .raw (.cond c a b)
  | .block i c => .block i (resC P inl c)
  | .loop c => .loop (resC P inl c)
  | .rangeFunc g ps a b => match resX g with
    | some x => .rangeF x ps.toList (resC P inl a) (resC P inl b)
    | none => .raw (.rangeFunc g ps a b)
  | c => .raw c

/-- What is known of a frame: temporaries and what they hold. -/
abbrev LT := List (Nat × AV)

noncomputable def lk (L : LT) (n : Nat) : Option AV := @List.rec (Nat × AV) (fun _ => Option AV) none (fun p _ ih => match p with
  | (i, v) => cond (Nat.beq n i) (some v) ih) L

noncomputable def evO (L : LT) : RX → Option AV
  | .t n => lk L n
  | .c v => some v

def pt (L : LT) (dst : Option Tmp) (v : AV) : LT := match dst with
  | none => L
  | some d => (d, v) :: L

/-- What is known of a state. -/
structure LS where
  L : LT
  h : AHeap
  df : List DI

def LS.know : LS → RX → Bool → LS
  | ⟨L, h, df⟩, c, b => match c with
    | .t d => ⟨(d, .bool b) :: L, h, df⟩
    | .c _ => ⟨L, h, df⟩

def Tr.shape : Nat → Tr → Bool
  | 0, .leaf => true
  | d + 1, .node _ l r => Tr.shape d l && Tr.shape d r
  | _, _ => false

/-- So many temporaries, and what they hold. -/
def HasL (n d : Nat) (L : LT) (tm : Tm) : Prop := (tm.n = n ∧ Tr.shape d tm.t = true) ∧ ∀ i v, lk L i = some v → tm.get i = v

/-- What is known is known there, too. -/
def subL : LT → LT → Prop
  | [], _ => True
  | [(i, v)], L => lk L i = some v
  | (i, v) :: r, L => lk L i = some v ∧ subL r L

def LS.sub (s t : LS) : Prop := subL s.L t.L ∧ t.h = s.h ∧ t.df = s.df

section
variable (P : Program) (call : CallF)

noncomputable def WpK : RI → LS → (LS → Prop) → (AV → LS → Prop) → Prop
  | ⟨dst, _, op⟩, ⟨L, h, df⟩, N, X => match op with
    | .op o => WpO P call (evO L) o h (fun v h' => N ⟨pt L dst v, h', df⟩) (fun v h' => X v ⟨L, h', df⟩)
    | .dfr c => c.operands.toList.all (known (evO L)) = true ∧ ∃ d, dfr (evR (evO L)) c P = some d ∧ N ⟨pt L dst (.tup []), h, d :: df⟩
    | .pan x => match evO L x with
      | some (.ifc t v) => X (.ifc t v) ⟨L, h, df⟩
      | _ => False

noncomputable def WpI : RI → LS → (LS → Prop) → (AV → LS → Prop) → Prop
  | ⟨dst, g, op⟩, ⟨L, h, df⟩, N, X => match g with
    | none => WpK P call ⟨dst, none, op⟩ ⟨L, h, df⟩ N X
    | some (d, want) => match lk L d with
      | some (.bool b) => @Bool.rec (fun _ => Prop)
          (@Bool.rec (fun _ => Prop) (WpK P call ⟨dst, some (d, want), op⟩ ⟨(d, .bool false) :: L, h, df⟩ N X) (N ⟨pt ((d, .bool false) :: L) dst (.tup []), h, df⟩) want)
          (@Bool.rec (fun _ => Prop) (N ⟨pt ((d, .bool true) :: L) dst (.tup []), h, df⟩) (WpK P call ⟨dst, some (d, want), op⟩ ⟨(d, .bool true) :: L, h, df⟩ N X) want) b
      | some (.tup []) => N ⟨pt L dst (.tup []), h, df⟩
      | _ => False

noncomputable def WpOps (l : List RI) : LS → (LS → Prop) → (AV → LS → Prop) → Prop := @List.rec RI (fun _ => LS → (LS → Prop) → (AV → LS → Prop) → Prop) (fun s N _ => N s)
  (fun i _ ih s N X => WpI P call i s (fun s' => ih s' N X) X) l
theorem WpOps_cons (i : RI) (r : List RI) (s : LS) (N : LS → Prop) (X : AV → LS → Prop) : WpOps P call (i :: r) s N X = WpI P call i s (fun s' => WpOps P call r s' N X) X := rfl

/-- An operation of a region of open order. -/
noncomputable def WpV : RI → LT → AHeap → (LT → AV → AHeap → Prop) → (AV → AHeap → Prop) → Prop
  | ⟨_, g, op⟩, L, h, K, X => match op with
    | .op o => match g with
      | none => WpO P call (evO L) o h (K L) X
      | some (d, want) => match lk L d with
        | some (.bool b) => @Bool.rec (fun _ => Prop)
            (@Bool.rec (fun _ => Prop) (WpO P call (evO ((d, .bool false) :: L)) o h (K ((d, .bool false) :: L)) X) (K ((d, .bool false) :: L) (.tup []) h) want)
            (@Bool.rec (fun _ => Prop) (K ((d, .bool true) :: L) (.tup []) h) (WpO P call (evO ((d, .bool true) :: L)) o h (K ((d, .bool true) :: L)) X) want) b
        | some (.tup []) => K L (.tup []) h
        | _ => False
    | _ => False

noncomputable def WpM (L : LT) (h : AHeap) (l : List (RI × AV)) : Prop := @List.rec (RI × AV) (fun _ => Prop) True (fun p r ih => match p with
  | (i, v) => match r with
    | [] => WpV P call i L h (fun _ v' _ => v' = v) (fun _ _ => False)
    | _ :: _ => WpV P call i L h (fun _ v' _ => v' = v) (fun _ _ => False) ∧ ih) l
noncomputable def WpD (X : AV → AHeap → Prop) (l : List (RI × Nat)) : List (RI × AV) → LT → AHeap → (LT → AHeap → Prop) → Prop := @List.rec (RI × Nat) (fun _ => List (RI × AV) → LT → AHeap → (LT → AHeap → Prop) → Prop) (fun _ L h N => N L h)
  (fun p _ ih M L h N => match p with
  | (⟨dst, g, op⟩, k) => WpV P call ⟨dst, g, op⟩ L h (fun L' v h' => match k with
    | 0 => ih M (pt L' dst v) h' N
    | 1 => ih ((⟨dst, g, op⟩, v) :: M) (pt L' dst v) h' N
    | 3 => ih [] (pt L' dst v) h' N
    | _ => match M with
      | [] => ih [] (pt L' dst v) h' N
      | p :: q => WpM P call (pt L' dst v) h' (p :: q) ∧ ih (p :: q) (pt L' dst v) h' N) (match k with
    | 0 => fun _ _ => False
    | 1 => fun _ _ => False
    | _ => X)) l
theorem WpD_cons (X : AV → AHeap → Prop) (i : RI) (k : Nat) (r : List (RI × Nat)) (M : List (RI × AV)) (L : LT) (h : AHeap) (N : LT → AHeap → Prop) : WpD P call X ((i, k) :: r) M L h N = WpV P call i L h (fun L' v h' => match k with
    | 0 => WpD P call X r M (pt L' i.dst v) h' N
    | 1 => WpD P call X r ((i, v) :: M) (pt L' i.dst v) h' N
    | 3 => WpD P call X r [] (pt L' i.dst v) h' N
    | _ => match M with
      | [] => WpD P call X r [] (pt L' i.dst v) h' N
      | p :: q => WpM P call (pt L' i.dst v) h' (p :: q) ∧ WpD P call X r (p :: q) (pt L' i.dst v) h' N) (match k with
    | 0 => fun _ _ => False
    | 1 => fun _ _ => False
    | _ => X) := rfl

/-- What is known of that which a region does not write. -/
noncomputable def rmv (l : List (RI × Nat)) (L : LT) : LT := @List.rec (Nat × AV) (fun _ => LT) [] (fun p _ ih => cond (l.any fun q => match q.1.dst with
    | some d => Nat.beq d p.1
    | none => false) ih (p :: ih)) L

variable (inl : FuncId → Bool) (k n d : Nat)

/-- A run of a statement ends well. -/
def OkC (c : Code) (s : LS) (Q : Ex → LS → Prop) : Prop := ∀ tm, HasL n d s.L tm → ∃ ex st', evalC P call (drawA P inl call) k c ⟨tm, s.h, s.df⟩ = some (ex, st') ∧ ∃ L', HasL n d L' st'.tm ∧ Q ex ⟨L', st'.h, st'.df⟩

def RC.erase : RC → RC
  | .seq a b => .seq a.erase b.erase
  | .cond c a b => .cond c a.erase b.erase
  | .block i c => .block i c.erase
  | .loop c => .loop c.erase
  | .rangeF g ps a b => .rangeF g ps a.erase b.erase
  | .cut c => c.erase
  | c => c

def OkR (rc : RC) (s : LS) (Q : Ex → LS → Prop) : Prop := ∀ c, resC P inl c = rc.erase → OkC P call inl k n d c s Q

noncomputable def Wp (rc : RC) : LS → (Ex → LS → Prop) → Prop :=
  @RC.rec (fun _ => LS → (Ex → LS → Prop) → Prop)
    (fun s Q => Q .norm s)
    (fun s Q => Q .ret s)
    (fun i s Q => Q (.exit i) s)
    (fun l s Q => WpOps P call l s (Q .norm) (fun v s' => Q (.pan v) s'))
    (fun l s Q => match s with | ⟨L, h, df⟩ => WpD P call (fun v h' => Q (.pan v) ⟨rmv l L, h', df⟩) l [] L h (fun L h => Q .norm ⟨L, h, df⟩))
    (fun _ _ iha ihb s Q => iha s (fun ex s' => match ex with
      | .norm => ihb s' Q
      | e => Q e s'))
    (fun c _ _ iha ihb s Q => match s with
      | ⟨L, h, df⟩ => match evO L c with
        | some (.bool t) => @Bool.rec (fun _ => Prop) (ihb (LS.know ⟨L, h, df⟩ c false) Q) (iha (LS.know ⟨L, h, df⟩ c true) Q) t
        | _ => False)
    (fun id _ ih s Q => ih s (fun ex s' => match ex with
      | .exit i => cond (Nat.beq i id) (Q .norm s') (Q (.exit i) s')
      | e => Q e s'))
    (fun c _ s Q => OkR P call inl k n d (.loop c) s Q)
    (fun g ps a b _ _ s Q => OkR P call inl k n d (.rangeF g ps a b) s Q)
    (fun c _ s Q => OkR P call inl k n d c s Q)
    (fun c s Q => OkC P call inl k n d c s Q) rc
theorem Wp_cond (c : RX) (a b : RC) (s : LS) (Q : Ex → LS → Prop) : Wp P call inl k n d (.cond c a b) s Q = match evO s.L c with
    | some (.bool t) => @Bool.rec (fun _ => Prop) (Wp P call inl k n d b (s.know c false) Q) (Wp P call inl k n d a (s.know c true) Q) t
    | _ => False := rfl
end

/-- All that is written is a temporary. -/
def okD (n : Nat) : Option Tmp → Bool
  | none => true
  | some d => Nat.blt d n
def okR (n : Nat) : RC → Bool
  | .ops l => l.all fun i => okD n i.dst
  | .draw l => l.all fun p => okD n p.1.dst
  | .seq a b => okR n a && okR n b
  | .cond _ a b => okR n a && okR n b
  | .block _ c => okR n c
  | .loop c => okR n c
  | .rangeF _ ps a b => ps.all (Nat.blt · n) && (okR n a && okR n b)
  | .cut c => okR n c
  | _ => true

section
variable {P : Program} {call : CallF} {inl : FuncId → Bool} {k n d : Nat} {tm : Tm} {h : AHeap} {L : LT}

theorem Tr.shape_set : ∀ (d : Nat) (t : Tr) (i : Nat) (v : AV), Tr.shape d t = true → Tr.shape d (t.set i v) = true
  | 0, .leaf, _, _, h => h
  | 0, .node _ _ _, _, _, h => by simp [Tr.shape] at h
  | d + 1, .leaf, _, _, h => by simp [Tr.shape] at h
  | d + 1, .node x l r, 0, v, h => by rw [Tr.set_zero]; simpa [Tr.shape] using h
  | d + 1, .node x l r, i + 1, v, h => by
    simp [Tr.shape] at h
    rw [Tr.set_succ]
    cases Nat.beq (Nat.mod i 2) 0 <;> simp only [cond, Tr.shape, Bool.and_eq_true]
    · exact ⟨h.1, Tr.shape_set d r _ v h.2⟩
    · exact ⟨Tr.shape_set d l _ v h.1, h.2⟩

theorem Tr.get_set_in : ∀ (d : Nat) (t : Tr) (i : Nat) (v : AV), Tr.shape d t = true → i + 1 < 2 ^ d → (t.set i v).get i = v
  | 0, _, i, _, _, hi => by simp at hi
  | d + 1, .leaf, _, _, h, _ => by simp [Tr.shape] at h
  | d + 1, .node x l r, 0, v, _, _ => rfl
  | d + 1, .node x l r, i + 1, v, h, hi => by
    simp [Tr.shape] at h
    have hh : i / 2 + 1 < 2 ^ d := by
      have : 2 ^ (d + 1) = 2 * 2 ^ d := by rw [Nat.pow_succ]; omega
      omega
    rw [Tr.set_succ]
    cases hb : Nat.beq (Nat.mod i 2) 0 <;> simp only [cond] <;> rw [Tr.get_succ, hb] <;> simp only [cond]
    · exact Tr.get_set_in d r _ v h.2 hh
    · exact Tr.get_set_in d l _ v h.1 hh

theorem HasL.put (hn : n < 2 ^ d) (H : HasL n d L tm) {dst : Option Tmp} (hd : okD n dst = true) (v : AV) : HasL n d (pt L dst v) (putT tm dst v) := by
  cases dst with
  | none => exact H
  | some e =>
    have he : e < n := Nat.blt_eq ▸ hd
    obtain ⟨⟨h1, h2⟩, h3⟩ := H
    have hb : Nat.blt e tm.n = true := by rw [h1]; exact hd
    refine ⟨⟨?_, ?_⟩, fun i u hi => ?_⟩
    · show (tm.set e v).n = n; rw [Tm.set_n]; exact h1
    · show Tr.shape d (tm.set e v).t = true
      unfold Tm.set
      rw [hb]
      exact Tr.shape_set d _ e v h2
    · show (tm.set e v).get i = u
      change cond (Nat.beq i e) (some v) (lk L i) = some u at hi
      cases hq : Nat.beq i e with
      | true =>
        rw [hq] at hi
        cases hi
        have : i = e := Nat.eq_of_beq_eq_true hq
        subst this
        unfold Tm.set Tm.get
        rw [hb]
        exact Tr.get_set_in d _ _ _ h2 (Nat.lt_of_le_of_lt he hn)
      | false =>
        rw [hq] at hi
        have : i ≠ e := Nat.ne_of_beq_eq_false hq
        rw [Tm.get_set_ne _ _ this]
        exact h3 i u hi

theorem HasL.know (H : HasL n d L tm) {i : Nat} {v : AV} (hv : lk L i = some v) : HasL n d ((i, v) :: L) tm := by
  refine ⟨H.1, fun j u hj => ?_⟩
  change cond (Nat.beq j i) (some v) (lk L j) = some u at hj
  cases hq : Nat.beq j i with
  | true =>
    rw [hq] at hj
    cases hj
    have : j = i := Nat.eq_of_beq_eq_true hq
    subst this
    exact H.2 _ _ hv
  | false => rw [hq] at hj; exact H.2 _ _ hj

theorem HasL.agree (H : HasL n d L tm) : Agree (evO L) tm := fun x a hx => by
  cases x with
  | t i => exact H.2 _ _ hx
  | c v => cases hx; rfl

theorem subL_cons {i : Nat} {v : AV} {r L' : LT} (hs : subL ((i, v) :: r) L') : lk L' i = some v ∧ subL r L' := by
  cases r with
  | nil => exact ⟨hs, trivial⟩
  | cons => exact hs

theorem subL_lk : ∀ {L L' : LT}, subL L L' → ∀ i v, lk L i = some v → lk L' i = some v
  | [], _, _, i, v, h => by cases h
  | (j, u) :: r, L', hs, i, v, h => by
    obtain ⟨h1, h2⟩ := subL_cons hs
    change cond (Nat.beq i j) (some u) (lk r i) = some v at h
    cases hq : Nat.beq i j with
    | true =>
      rw [hq] at h
      cases h
      have : i = j := Nat.eq_of_beq_eq_true hq
      subst this
      exact h1
    | false => rw [hq] at h; exact subL_lk h2 i v h

theorem HasL.sub {L' : LT} (hs : subL L L') (H : HasL n d L' tm) : HasL n d L tm := ⟨H.1, fun i v hi => H.2 i v (subL_lk hs i v hi)⟩

/-- An operation, as the machine has it. -/
theorem WpK_sound (hn : n < 2 ^ d) {o : Oper} {g : Option (Nat × Bool)} {s : LS} {N : LS → Prop} {X : AV → LS → Prop} (H : HasL n d s.L tm) (hd : okD n o.dst = true) (hw : WpK P call ⟨o.dst, g, resK P o⟩ s N X) :
    ∃ ex st', stepA P call o ⟨tm, s.h, s.df⟩ = some (ex, st') ∧ ∃ L', HasL n d L' st'.tm ∧ (match ex with | .norm => N ⟨L', st'.h, st'.df⟩ | .pan v => X v ⟨L', st'.h, st'.df⟩ | _ => False) := by
  have gen : resK P o = .op (resO P o) → (∀ c, o.op ≠ .defer c) → (∀ x, o.op ≠ .panic x) → ∃ ex st', stepA P call o ⟨tm, s.h, s.df⟩ = some (ex, st') ∧ ∃ L', HasL n d L' st'.tm ∧ (match ex with | .norm => N ⟨L', st'.h, st'.df⟩ | .pan v => X v ⟨L', st'.h, st'.df⟩ | _ => False) := fun he h1 h2 => by
    unfold WpK at hw
    rw [he] at hw
    obtain ⟨r, h', g1, g2⟩ := WpO_sound H.agree hw
    unfold stepV at g1
    unfold stepA
    split
    · rename_i c hc; exact (h1 c hc).elim
    · rename_i x hx; exact (h2 x hx).elim
    · split at g1
      · rename_i v hv; cases g1; simp only [hv]; exact ⟨_, _, rfl, _, H.put hn hd v, g2⟩
      · rename_i v h'' hv; cases g1; simp only [hv]; exact ⟨_, _, rfl, _, H.put hn hd v, g2⟩
      · rename_i f args hv
        simp only [hv]
        rw [g1]
        cases r
        · exact ⟨_, _, rfl, _, H.put hn hd _, g2⟩
        · exact ⟨_, _, rfl, _, H, g2⟩
      · cases g1
  unfold resK at hw gen
  unfold WpK at hw
  cases hop : o.op
  case defer c =>
    rw [hop] at hw
    obtain ⟨hk, di, h1, h2⟩ := hw
    unfold stepA
    rw [hop]
    have hops : ∀ x ∈ c.operands, ev tm x = evR (evO s.L) x := by
      intro x hx
      have := List.all_eq_true.1 hk x (Array.mem_toList_iff.2 hx)
      unfold known at this
      unfold evR
      cases hx' : resX x with
      | none =>
        cases x with
        | tmp t => simp [resX] at hx'
        | const v => simp [resX] at hx'; exact hx'
        | global g => rfl
        | func f => simp [resX] at hx'
      | some a =>
        rw [hx'] at this
        simp only at this ⊢
        cases ha : evO s.L a with
        | none => rw [ha] at this; cases this
        | some v => exact H.agree.ev hx' ha
    have hdf : dfr (ev tm) c P = dfr (evR (evO s.L)) c P := by
      unfold dfr
      have hargs : mapM' (ev tm) c.args.toList = mapM' (evR (evO s.L)) c.args.toList := mapM'_congr fun x hx => hops x (by unfold Call.operands; simp; right; simpa using hx)
      rw [hargs]
      cases hc : c.callee with
      | value f =>
        have := hops f (by unfold Call.operands; simp [hc])
        cases mapM' (evR (evO s.L)) c.args.toList <;> simp only [this]
      | invoke r m => rfl
      | builtin b => rfl
    simp only [hdf, h1]
    exact ⟨_, _, rfl, _, H.put hn hd _, h2⟩
  case panic x =>
    rw [hop] at hw
    simp only at hw
    split at hw
    · rename_i e
      split at e
      · cases e
      · rename_i hx
        cases e
        obtain ⟨hk, r, h', g1, g2⟩ := hw
        unfold stepV at g1
        simp only [exOp, hop] at g1
        cases g1
    · rename_i c e; split at e <;> cases e
    · rename_i a e
      split at e
      · rename_i b hb
        cases e
        unfold stepA
        rw [hop]
        split at hw
        · rename_i t v hv; simp only [H.agree.ev hb hv]; exact ⟨_, _, rfl, _, H, hw⟩
        · exact hw.elim
      · cases e
  all_goals exact gen (by rw [hop]) (by rw [hop]; simp) (by rw [hop]; simp)

def guardV (tm : Tm) (d : Nat) (want : Bool) (r : Option Bool) : Prop := ∀ v, tm.get d = v → r = match v with
  | .bool b => some (b == want)
  | .tup [] => some false
  | _ => none

theorem resI_guard {ops : Array Oper} {o : Oper} {i : RI} (hi : resI P ops o = some i) : i.dst = o.dst ∧ i.op = resK P o ∧ ((i.guard = none ∧ guardOf ops o tm = some true) ∨
    ∃ d want, i.guard = some (d, want) ∧ guardV tm d want (guardOf ops o tm)) := by
  unfold resI at hi
  unfold guardOf
  split at hi
  · rename_i hg; cases hi; exact ⟨rfl, rfl, .inl ⟨rfl, by rw [hg]⟩⟩
  · rename_i j want hg
    split at hi
    · cases hi
    · rename_i d hd
      cases hi
      refine ⟨rfl, rfl, .inr ⟨d, want, rfl, fun v hv => ?_⟩⟩
      rw [hg]
      simp only [hd, hv]
      cases v <;> first | rfl | (rename_i l; cases l <;> rfl)

theorem WpOps_sound (hn : n < 2 ^ d) {ops : Array Oper} : ∀ {l : List Oper} {rl : List RI} {tm : Tm} {s : LS} {N : LS → Prop} {X : AV → LS → Prop}, resIs P ops l = some rl → (rl.all fun i => okD n i.dst) = true → HasL n d s.L tm → WpOps P call rl s N X →
    ∃ ex st', runOps P call ops l ⟨tm, s.h, s.df⟩ = some (ex, st') ∧ ∃ L', HasL n d L' st'.tm ∧ (match ex with | .norm => N ⟨L', st'.h, st'.df⟩ | .pan v => X v ⟨L', st'.h, st'.df⟩ | _ => False)
  | [], _, tm, s, N, X, hr, _, H, hw => by
    simp [resIs] at hr; subst hr
    exact ⟨.norm, _, rfl, _, H, hw⟩
  | o :: l, _, tm, s, N, X, hr, hall, H, hw => by
    unfold resIs at hr
    split at hr
    · rename_i a as ha has
      cases hr
      simp only [List.all_cons, Bool.and_eq_true] at hall
      rw [WpOps_cons] at hw
      unfold WpI at hw
      obtain ⟨e1, e2, e3⟩ := resI_guard (tm := tm) ha
      obtain ⟨adst, ag, aop⟩ := a
      simp only at e1 e2 e3 hall
      subst e1 e2
      have go : ∀ L, HasL n d L tm → guardOf ops o tm = some true → WpK P call ⟨o.dst, ag, resK P o⟩ ⟨L, s.h, s.df⟩ (fun s' => WpOps P call as s' N X) X → ∃ ex st', runOps P call ops (o :: l) ⟨tm, s.h, s.df⟩ = some (ex, st') ∧ ∃ L', HasL n d L' st'.tm ∧ (match ex with | .norm => N ⟨L', st'.h, st'.df⟩ | .pan v => X v ⟨L', st'.h, st'.df⟩ | _ => False) := fun L HL hg hw => by
        obtain ⟨ex, st', g1, L', g3, g2⟩ := WpK_sound hn HL hall.1 hw
        unfold runOps
        simp only [hg, g1]
        cases ex with
        | norm => exact WpOps_sound hn (s := ⟨L', st'.h, st'.df⟩) has hall.2 g3 g2
        | pan v => exact ⟨_, _, rfl, _, g3, g2⟩
        | exit i => exact g2.elim
        | ret => exact g2.elim
      have skip : ∀ L, HasL n d L tm → guardOf ops o tm = some false → WpOps P call as ⟨pt L o.dst (.tup []), s.h, s.df⟩ N X → ∃ ex st', runOps P call ops (o :: l) ⟨tm, s.h, s.df⟩ = some (ex, st') ∧ ∃ L', HasL n d L' st'.tm ∧ (match ex with | .norm => N ⟨L', st'.h, st'.df⟩ | .pan v => X v ⟨L', st'.h, st'.df⟩ | _ => False) := fun L HL hg hw => by
        unfold runOps
        simp only [hg]
        exact WpOps_sound hn (s := ⟨pt L o.dst (.tup []), s.h, s.df⟩) has hall.2 (HL.put hn hall.1 _) hw
      rcases e3 with ⟨e3, e4⟩ | ⟨i, want, e3, e4⟩
      · subst e3
        exact go s.L H e4 hw
      · subst e3
        simp only at hw
        split at hw
        · rename_i b hb
          have e5 := e4 _ (H.2 _ _ hb)
          cases b with
          | true =>
            simp only at hw
            cases want with
            | true => exact go _ (H.know hb) e5 hw
            | false => exact skip _ (H.know hb) e5 hw
          | false =>
            simp only at hw
            cases want with
            | true => exact skip _ (H.know hb) e5 hw
            | false => exact go _ (H.know hb) e5 hw
        · rename_i hb
          exact skip _ H (e4 _ (H.2 _ _ hb)) hw
        · exact hw.elim
    · cases hr

mutual
theorem beqV_refl : ∀ (x : AV), beqV x x = true
  | .undef => by simp [beqV]
  | .bool a => by simp [beqV]
  | .int k n => by simp [beqV]
  | .flt k n => by simp [beqV]
  | .str s => by simp [beqV]
  | .nilp => by simp [beqV]
  | .ptr b v o => by simp [beqV]
  | .pin cs o => by simp [beqV, beqVs_refl cs]
  | .lst sz xs c => by simp [beqV, beqVs_refl xs]
  | .sl sz b v o l => by simp [beqV]
  | .mapn => by simp [beqV]
  | .map b => by simp [beqV]
  | .fn f x z => by simp [beqV, beqVs_refl x, beqVs_refl z]
  | .nilf => by simp [beqV]
  | .ifc t x => by simp [beqV, beqV_refl x]
  | .nili => by simp [beqV]
  | .agg cs => by simp [beqV, beqVs_refl cs]
  | .tup cs => by simp [beqV, beqVs_refl cs]
theorem beqVs_refl : ∀ (xs : List AV), beqVs xs xs = true
  | [] => by simp [beqVs]
  | x :: xs => by simp [beqVs, beqV_refl x, beqVs_refl xs]
end

theorem WpV_sound {ops : Array Oper} {o : Oper} {i : RI} (H : HasL n d L tm) (hi : resI P ops o = some i) {K : LT → AV → AHeap → Prop} {X : AV → AHeap → Prop} (hw : WpV P call i L h K X) :
    (∃ v h' L', HasL n d L' tm ∧ valA P call ops o tm h = some (v, h') ∧ K L' v h') ∨ (∃ v h', valA P call ops o tm h = none ∧ panA P call ops o tm h = some (v, h') ∧ X v h') := by
  obtain ⟨e1, e2, e3⟩ := resI_guard (tm := tm) hi
  obtain ⟨adst, ag, aop⟩ := i
  simp only at e1 e2 e3
  subst e1 e2
  unfold WpV at hw
  simp only at hw
  split at hw
  · rename_i ro hro
    have hk : ro = resO P o := by
      unfold resK at hro
      split at hro
      · cases hro
      · rename_i x hx
        split at hro
        · cases hro
        · cases hro
          unfold resO resOp
          rw [hx]; rfl
      · cases hro; rfl
    subst hk
    have go : ∀ L, HasL n d L tm → guardOf ops o tm = some true → WpO P call (evO L) (resO P o) h (K L) X → (∃ v h' L', HasL n d L' tm ∧ valA P call ops o tm h = some (v, h') ∧ K L' v h') ∨ (∃ v h', valA P call ops o tm h = none ∧ panA P call ops o tm h = some (v, h') ∧ X v h') := fun L HL hg hw => by
      obtain ⟨r, h', g1, g2⟩ := WpO_sound HL.agree hw
      unfold stepV at g1
      unfold valA panA
      rw [hg]
      simp only
      split at g1
      · rename_i v hv; cases g1; rw [hv]; exact .inl ⟨_, _, _, HL, rfl, g2⟩
      · rename_i v h'' hv; cases g1; rw [hv]; exact .inl ⟨_, _, _, HL, rfl, g2⟩
      · rename_i f args hv
        rw [hv]
        simp only [g1]
        cases r
        · exact .inl ⟨_, _, _, HL, rfl, g2⟩
        · exact .inr ⟨_, _, rfl, rfl, g2⟩
      · cases g1
    have skip : ∀ L, HasL n d L tm → guardOf ops o tm = some false → K L (.tup []) h → (∃ v h' L', HasL n d L' tm ∧ valA P call ops o tm h = some (v, h') ∧ K L' v h') ∨ (∃ v h', valA P call ops o tm h = none ∧ panA P call ops o tm h = some (v, h') ∧ X v h') := fun L HL hg hw => .inl ⟨_, _, _, HL, by unfold valA; rw [hg], hw⟩
    rcases e3 with ⟨e3, e4⟩ | ⟨i, want, e3, e4⟩
    · subst e3
      exact go _ H e4 hw
    · subst e3
      simp only at hw
      split at hw
      · rename_i b hb
        have e5 := e4 _ (H.2 _ _ hb)
        cases b with
        | true =>
          simp only at hw
          cases want with
          | true => exact go _ (H.know hb) e5 hw
          | false => exact skip _ (H.know hb) e5 hw
        | false =>
          simp only at hw
          cases want with
          | true => exact skip _ (H.know hb) e5 hw
          | false => exact go _ (H.know hb) e5 hw
      · rename_i hb
        exact skip _ H (e4 _ (H.2 _ _ hb)) hw
      · exact hw.elim
  · exact hw.elim

/-- What was read early. -/
inductive MonR (P : Program) (ops : Array Oper) : Mon → List (RI × AV) → Prop
  | nil : MonR P ops [] []
  | cons {o : Oper} {i : RI} {v : AV} {M : Mon} {R : List (RI × AV)} (hi : resI P ops o = some i) (hr : MonR P ops M R) : MonR P ops ((o, v) :: M) ((i, v) :: R)

theorem WpM_sound (H : HasL n d L tm) {ops : Array Oper} : ∀ {M : Mon} {R : List (RI × AV)}, MonR P ops M R → WpM P call L h R → monOk P call ops M tm h = true
  | _, _, .nil, _ => rfl
  | _, _, .cons (o := o) (i := i) (v := v) (M := M) (R := R) hi hr, hw => by
    have h2 : WpV P call i L h (fun _ v' _ => v' = v) (fun _ _ => False) ∧ WpM P call L h R := by
      cases R with
      | nil => exact ⟨hw, trivial⟩
      | cons => exact hw
    rcases WpV_sound H hi h2.1 with ⟨v', h', L', _, g1, g2⟩ | ⟨_, _, _, _, g⟩
    case inr => exact g.elim
    have ih := WpM_sound H hr h2.2
    subst g2
    unfold monOk at ih ⊢
    simp only [List.all_cons, g1, beqV_refl, ih, Bool.and_self]

theorem WpD_sound (hn : n < 2 ^ d) {ops : Array Oper} {X : AV → AHeap → Prop} : ∀ {l : List (Nat × Nat)} {rl : List (RI × Nat)} {M : Mon} {R : List (RI × AV)} {tm : Tm} {L : LT} {h : AHeap} {N : LT → AHeap → Prop}, resD P ops l = some rl → (rl.all fun p => okD n p.1.dst) = true → MonR P ops M R → HasL n d L tm → WpD P call X rl R L h N →
    ∃ r, runS P call ops l M tm h = some r ∧ (match r with | .norm tm' h' => ∃ L', HasL n d L' tm' ∧ N L' h' | .pan v h' => X v h')
  | [], _, M, R, tm, L, h, N, hr, _, hm, H, hw => by
    simp [resD] at hr; subst hr
    exact ⟨.norm tm h, rfl, L, H, hw⟩
  | (j, k) :: l, _, M, R, tm, L, h, N, hr, hall, hm, H, hw => by
    unfold resD at hr
    split at hr
    · cases hr
    · rename_i o ho
      split at hr
      · rename_i a as ha has
        cases hr
        simp only [List.all_cons, Bool.and_eq_true] at hall
        rw [WpD_cons] at hw
        rcases WpV_sound H ha hw with ⟨v, h', L', H', g1, g2⟩ | ⟨v, h', g0, g1, g2⟩
        · have hd : a.dst = o.dst := (resI_guard (tm := tm) ha).1
          have hp : HasL n d (pt L' a.dst v) (putT tm o.dst v) := by rw [hd]; exact H'.put hn (by rw [← hd]; exact hall.1) v
          unfold runS
          simp only [ho, g1]
          split
          · exact WpD_sound hn has hall.2 hm hp g2
          · exact WpD_sound hn has hall.2 (.cons ha hm) hp g2
          · exact WpD_sound hn has hall.2 .nil hp g2
          · rename_i hk0 hk1 hk3
            split at g2
            · exact (hk0 rfl).elim
            · exact (hk1 rfl).elim
            · exact (hk3 rfl).elim
            · cases hm with
              | nil =>
                simp only at g2
                rw [if_pos (by rfl)]
                exact WpD_sound hn has hall.2 .nil hp g2
              | cons hi hr =>
                simp only at g2
                rw [if_pos (WpM_sound hp (.cons hi hr) g2.1)]
                exact WpD_sound hn has hall.2 (.cons hi hr) hp g2.2
        · unfold runS
          simp only [ho, g0]
          split
          · exact g2.elim
          · exact g2.elim
          · rename_i hk0 hk1
            simp only [g1]
            refine ⟨_, rfl, ?_⟩
            split at g2
            · exact (hk0 rfl).elim
            · exact (hk1 rfl).elim
            · exact g2
      · cases hr

theorem lk_rmv {l : List (RI × Nat)} : ∀ {L : LT} {i : Nat} {v : AV}, lk (rmv l L) i = some v → lk L i = some v ∧ (l.any fun q => match q.1.dst with | some d => Nat.beq d i | none => false) = false
  | [], i, v, h => by cases h
  | (j, u) :: r, i, v, h => by
    change lk (cond (l.any fun q => match q.1.dst with | some d => Nat.beq d j | none => false) (rmv l r) ((j, u) :: rmv l r)) i = some v at h
    cases hc : (l.any fun q => match q.1.dst with | some d => Nat.beq d j | none => false) with
    | true =>
      rw [hc] at h
      obtain ⟨h1, h2⟩ := lk_rmv (L := r) h
      refine ⟨?_, h2⟩
      show cond (Nat.beq i j) (some u) (lk r i) = some v
      cases hq : Nat.beq i j with
      | true =>
        have : i = j := Nat.eq_of_beq_eq_true hq
        subst this
        rw [hc] at h2; cases h2
      | false => exact h1
    | false =>
      rw [hc] at h
      change cond (Nat.beq i j) (some u) (lk (rmv l r) i) = some v at h
      show cond (Nat.beq i j) (some u) (lk r i) = some v ∧ _
      cases hq : Nat.beq i j with
      | true =>
        rw [hq] at h
        have : i = j := Nat.eq_of_beq_eq_true hq
        subst this
        exact ⟨h, hc⟩
      | false => rw [hq] at h; exact lk_rmv (L := r) h
theorem HasL.undefs (hn : n < 2 ^ d) {ops : List Oper} {l : List (RI × Nat)} (hc : coverD ops l = true) (hok : (ops.all fun o => okD n o.dst) = true) (H : HasL n d L tm) : HasL n d (rmv l L) (undefs ops tm) := by
  have shp : ∀ (ops : List Oper) (x : Tm), (ops.all fun o => okD n o.dst) = true → HasL n d [] x → HasL n d [] (Abs.undefs ops x) := by
    intro ops
    induction ops with
    | nil => exact fun x _ H => H
    | cons o r ih =>
      intro x ho hx
      simp only [List.all_cons, Bool.and_eq_true] at ho
      have h1 := hx.put hn ho.1 .undef
      exact ih _ ho.2 ⟨h1.1, fun i v h => by cases h⟩
  refine ⟨(shp ops tm hok ⟨H.1, fun i v h => by cases h⟩).1, fun i v hi => ?_⟩
  obtain ⟨h1, h2⟩ := lk_rmv hi
  rw [undefs_ne ops tm fun o ho hd => ?_]
  · exact H.2 i v h1
  · have := List.all_eq_true.1 hc o ho
    simp only [hd] at this
    rw [this] at h2; cases h2

theorem cover_ok {ops : List Oper} {l : List (RI × Nat)} (hc : coverD ops l = true) (ho : (l.all fun p => okD n p.1.dst) = true) : (ops.all fun o => okD n o.dst) = true := by
  rw [List.all_eq_true]
  intro o hm
  have := List.all_eq_true.1 hc o hm
  cases hd : o.dst with
  | none => rfl
  | some d =>
    rw [hd] at this
    simp only at this
    obtain ⟨p, hp, hq⟩ := List.any_eq_true.1 this
    have h2 := List.all_eq_true.1 ho p hp
    cases he : p.1.dst with
    | none => rw [he] at hq; cases hq
    | some e =>
      rw [he] at hq h2
      have : e = d := Nat.eq_of_beq_eq_true hq
      subst this
      exact h2

theorem OkC.mono {c : Code} {s : LS} {Q Q' : Ex → LS → Prop} (hq : ∀ ex s, Q ex s → Q' ex s) (ho : OkC P call inl k n d c s Q) : OkC P call inl k n d c s Q' :=
  fun tm H => let ⟨ex, st', h1, L', h3, h2⟩ := ho tm H; ⟨ex, st', h1, L', h3, hq _ _ h2⟩

/-- Which statements come to a region. -/
theorem resC_region {id : Nat} {ops : Array Oper} {dr : Bool} : (∃ l, resC P inl (.region id ops dr) = .ops l) ∨ (∃ l, resC P inl (.region id ops dr) = .draw l) ∨ resC P inl (.region id ops dr) = .raw (.region id ops dr) := by
  unfold resC
  split
  · split
    · split
      · split
        · split
          · exact .inr (.inl ⟨_, rfl⟩)
          · exact .inr (.inr rfl)
        · exact .inr (.inr rfl)
      · exact .inr (.inr rfl)
    · exact .inr (.inr rfl)
  · split
    · exact .inl ⟨_, rfl⟩
    · exact .inr (.inr rfl)

theorem resC_cond {x : Operand} {a b : Code} : (∃ y, resX x = some y ∧ resC P inl (.cond x a b) = .cond y (resC P inl a) (resC P inl b)) ∨ resC P inl (.cond x a b) = .raw (.cond x a b) := by
  cases hx : resX x with
  | none =>
    right
    rw [resC]
    simp only [hx]
  | some y =>
    left
    refine ⟨y, rfl, ?_⟩
    rw [resC]
    simp only [hx]

theorem resC_range {x : Operand} {ps : Array Tmp} {a b : Code} : (∃ y, resX x = some y ∧ resC P inl (.rangeFunc x ps a b) = .rangeF y ps.toList (resC P inl a) (resC P inl b)) ∨ resC P inl (.rangeFunc x ps a b) = .raw (.rangeFunc x ps a b) := by
  cases hx : resX x with
  | none =>
    right
    rw [resC]
    simp only [hx]
  | some y =>
    left
    refine ⟨y, rfl, ?_⟩
    rw [resC]
    simp only [hx]

theorem inv_seq {c : Code} {ra rb : RC} (h : resC P inl c = .seq ra rb) : ∃ a b, c = .seq a b ∧ resC P inl a = ra ∧ resC P inl b = rb := by
  cases c with
  | seq a b => unfold resC at h; cases h; exact ⟨a, b, rfl, rfl, rfl⟩
  | region id ops dr => rcases resC_region (P := P) (inl := inl) (id := id) (ops := ops) (dr := dr) with ⟨l, e⟩ | ⟨l, e⟩ | e <;> rw [e] at h <;> cases h
  | cond x a b => rcases resC_cond (P := P) (inl := inl) (x := x) (a := a) (b := b) with ⟨y, _, e⟩ | e <;> rw [e] at h <;> cases h
  | rangeFunc x ps a b => rcases resC_range (P := P) (inl := inl) (x := x) (ps := ps) (a := a) (b := b) with ⟨y, _, e⟩ | e <;> rw [e] at h <;> cases h
  | _ => unfold resC at h; cases h
theorem inv_loop {c : Code} {ra : RC} (h : resC P inl c = .loop ra) : ∃ a, c = .loop a ∧ resC P inl a = ra := by
  cases c with
  | loop a => unfold resC at h; cases h; exact ⟨a, rfl, rfl⟩
  | region id ops dr => rcases resC_region (P := P) (inl := inl) (id := id) (ops := ops) (dr := dr) with ⟨l, e⟩ | ⟨l, e⟩ | e <;> rw [e] at h <;> cases h
  | cond x a b => rcases resC_cond (P := P) (inl := inl) (x := x) (a := a) (b := b) with ⟨y, _, e⟩ | e <;> rw [e] at h <;> cases h
  | rangeFunc x ps a b => rcases resC_range (P := P) (inl := inl) (x := x) (ps := ps) (a := a) (b := b) with ⟨y, _, e⟩ | e <;> rw [e] at h <;> cases h
  | _ => unfold resC at h; cases h
theorem inv_block {c : Code} {i : Nat} {ra : RC} (h : resC P inl c = .block i ra) : ∃ a, c = .block i a ∧ resC P inl a = ra := by
  cases c with
  | block j a => unfold resC at h; cases h; exact ⟨a, rfl, rfl⟩
  | region id ops dr => rcases resC_region (P := P) (inl := inl) (id := id) (ops := ops) (dr := dr) with ⟨l, e⟩ | ⟨l, e⟩ | e <;> rw [e] at h <;> cases h
  | cond x a b => rcases resC_cond (P := P) (inl := inl) (x := x) (a := a) (b := b) with ⟨y, _, e⟩ | e <;> rw [e] at h <;> cases h
  | rangeFunc x ps a b => rcases resC_range (P := P) (inl := inl) (x := x) (ps := ps) (a := a) (b := b) with ⟨y, _, e⟩ | e <;> rw [e] at h <;> cases h
  | _ => unfold resC at h; cases h
theorem inv_cond {c : Code} {x : RX} {ra rb : RC} (h : resC P inl c = .cond x ra rb) : ∃ y a b, c = .cond y a b ∧ resX y = some x ∧ resC P inl a = ra ∧ resC P inl b = rb := by
  cases c with
  | cond z a b =>
    rcases resC_cond (P := P) (inl := inl) (x := z) (a := a) (b := b) with ⟨y, hy, e⟩ | e
    · rw [e] at h; cases h; exact ⟨z, a, b, rfl, hy, rfl, rfl⟩
    · rw [e] at h; cases h
  | region id ops dr => rcases resC_region (P := P) (inl := inl) (id := id) (ops := ops) (dr := dr) with ⟨l, e⟩ | ⟨l, e⟩ | e <;> rw [e] at h <;> cases h
  | rangeFunc x ps a b => rcases resC_range (P := P) (inl := inl) (x := x) (ps := ps) (a := a) (b := b) with ⟨y, _, e⟩ | e <;> rw [e] at h <;> cases h
  | _ => unfold resC at h; cases h
theorem inv_simple {c : Code} {r : RC} (h : resC P inl c = r) : (r = .skip → c = .skip) ∧ (r = .ret → c = .ret) ∧ (∀ i, r = .exit i → c = .exit i) ∧ (∀ c', r = .raw c' → c = c') ∧ (∀ c', r ≠ .cut c') ∧ (∀ l, r = .ops l → ∃ id ops dr, c = .region id ops dr) ∧ (∀ l, r = .draw l → ∃ id ops dr, c = .region id ops dr) := by
  subst h
  cases c with
  | region id ops dr =>
    refine ⟨?_, ?_, ?_, ?_, ?_, fun _ _ => ⟨_, _, _, rfl⟩, fun _ _ => ⟨_, _, _, rfl⟩⟩ <;> rcases resC_region (P := P) (inl := inl) (id := id) (ops := ops) (dr := dr) with ⟨l, e⟩ | ⟨l, e⟩ | e <;> rw [e] <;> intros <;> first | (rename_i h; cases h; done) | (rename_i h; cases h; rfl) | (intro h; cases h)
  | cond x a b =>
    refine ⟨?_, ?_, ?_, ?_, ?_, ?_, ?_⟩ <;> rcases resC_cond (P := P) (inl := inl) (x := x) (a := a) (b := b) with ⟨y, _, e⟩ | e <;> rw [e] <;> intros <;> first | (rename_i h; cases h; done) | (rename_i h; cases h; rfl) | (intro h; cases h)
  | rangeFunc x ps a b =>
    refine ⟨?_, ?_, ?_, ?_, ?_, ?_, ?_⟩ <;> rcases resC_range (P := P) (inl := inl) (x := x) (ps := ps) (a := a) (b := b) with ⟨y, _, e⟩ | e <;> rw [e] <;> intros <;> first | (rename_i h; cases h; done) | (rename_i h; cases h; rfl) | (intro h; cases h)
  | _ =>
    refine ⟨?_, ?_, ?_, ?_, ?_, ?_, ?_⟩ <;> unfold resC <;> intros <;> first | (rename_i h; cases h; done) | (rename_i h; cases h; rfl) | (intro h; cases h) | rfl

theorem Wp_sound (hn : n < 2 ^ d) : ∀ (rc : RC) {s : LS} {Q : Ex → LS → Prop}, okR n rc = true → Wp P call inl k n d rc s Q → OkR P call inl k n d rc s Q
  | .skip, s, Q, _, hw => fun c hc tm H => by
    have := (inv_simple hc).1 rfl; subst this
    exact ⟨_, _, rfl, _, H, hw⟩
  | .ret, s, Q, _, hw => fun c hc tm H => by
    have := (inv_simple hc).2.1 rfl; subst this
    exact ⟨_, _, rfl, _, H, hw⟩
  | .exit i, s, Q, _, hw => fun c hc tm H => by
    have := (inv_simple hc).2.2.1 i rfl; subst this
    exact ⟨_, _, rfl, _, H, hw⟩
  | .raw c', s, Q, _, hw => fun c hc tm H => by
    have := (inv_simple hc).2.2.2.1 c' rfl; subst this
    exact hw tm H
  | .cut c', s, Q, _, hw => hw
  | .loop c', s, Q, _, hw => hw
  | .rangeF _ _ _ _, s, Q, _, hw => hw
  | .ops l, s, Q, ho, hw => fun c hc tm H => by
    obtain ⟨id, ops, dr, rfl⟩ := (inv_simple hc).2.2.2.2.2.1 l rfl
    change _ = RC.ops l at hc
    unfold resC at hc
    split at hc
    · split at hc
      · split at hc
        · split at hc
          · split at hc <;> cases hc
          · cases hc
        · cases hc
      · cases hc
    · rename_i hdr
      split at hc
      · rename_i l' hl
        cases hc
        obtain ⟨ex, st', g1, L', g3, g2⟩ := WpOps_sound hn hl ho H hw
        refine ⟨ex, st', ?_, L', g3, ?_⟩
        · unfold evalC; rw [if_neg hdr]; exact g1
        · cases ex
          · exact g2
          · exact g2.elim
          · exact g2.elim
          · exact g2
      · cases hc
  | .draw l, s, Q, ho, hw => fun c hc tm H => by
    obtain ⟨id, ops, dr, rfl⟩ := (inv_simple hc).2.2.2.2.2.2 l rfl
    change _ = RC.draw l at hc
    unfold resC at hc
    split at hc
    · rename_i hdr
      split at hc
      · rename_i order hord
        split at hc
        · rename_i hf
          split at hc
          · rename_i l' hl
            split at hc
            · rename_i hcov
              cases hc
              obtain ⟨r, g1, g2⟩ := WpD_sound hn hl ho .nil H hw
              cases r with
              | norm tm' h' =>
                obtain ⟨L', g3, g2⟩ := g2
                refine ⟨.norm, ⟨tm', h', s.df⟩, ?_, L', g3, g2⟩
                unfold evalC
                rw [if_pos hdr]
                unfold drawA
                simp only [hord, g1]
                rw [if_pos hf]
              | pan v h' =>
                refine ⟨.pan v, ⟨undefs ops.toList tm, h', s.df⟩, ?_, rmv l s.L, H.undefs hn hcov (cover_ok hcov ho), g2⟩
                unfold evalC
                rw [if_pos hdr]
                unfold drawA
                simp only [hord, g1]
                rw [if_pos hf]
            · cases hc
          · cases hc
        · cases hc
      · cases hc
    · split at hc <;> cases hc
  | .seq a b, s, Q, ho, hw => fun c hc tm H => by
    unfold okR at ho
    simp only [Bool.and_eq_true] at ho
    obtain ⟨ca, cb, rfl, ha, hb⟩ := inv_seq hc
    obtain ⟨ex, st', h1, L', h3, h2⟩ := Wp_sound hn a ho.1 (show Wp P call inl k n d a s _ from hw) ca ha tm H
    cases ex with
    | norm =>
      obtain ⟨ex', st'', h4, L'', h6, h5⟩ := Wp_sound hn b ho.2 (show Wp P call inl k n d b ⟨L', st'.h, st'.df⟩ Q from h2) cb hb st'.tm h3
      exact ⟨ex', st'', by unfold evalC; simp only [h1]; exact h4, L'', h6, h5⟩
    | exit i => exact ⟨_, _, by unfold evalC; simp only [h1], L', h3, h2⟩
    | ret => exact ⟨_, _, by unfold evalC; simp only [h1], L', h3, h2⟩
    | pan v => exact ⟨_, _, by unfold evalC; simp only [h1], L', h3, h2⟩
  | .cond x a b, s, Q, ho, hw => fun c hc tm H => by
    unfold okR at ho
    simp only [Bool.and_eq_true] at ho
    obtain ⟨y, ca, cb, rfl, hy, ha, hb⟩ := inv_cond hc
    rw [Wp_cond] at hw
    split at hw
    · rename_i t ht
      have hcv : ev tm y = some (.bool t) := H.agree.ev hy ht
      have Hk : HasL n d (s.know x t).L tm := by
        cases x with
        | t i => exact H.know ht
        | c v => exact H
      have eh : (s.know x t).h = s.h ∧ (s.know x t).df = s.df := by cases x <;> exact ⟨rfl, rfl⟩
      cases t with
      | true =>
        obtain ⟨ex, st', h1, L', h3, h2⟩ := Wp_sound hn a ho.1 (show Wp P call inl k n d a (s.know x true) Q from hw) ca ha tm Hk
        rw [eh.1, eh.2] at h1
        exact ⟨ex, st', by unfold evalC; simp only [hcv, if_true]; exact h1, L', h3, h2⟩
      | false =>
        obtain ⟨ex, st', h1, L', h3, h2⟩ := Wp_sound hn b ho.2 (show Wp P call inl k n d b (s.know x false) Q from hw) cb hb tm Hk
        rw [eh.1, eh.2] at h1
        exact ⟨ex, st', by unfold evalC; simp only [hcv]; exact h1, L', h3, h2⟩
    · exact hw.elim
  | .block id b, s, Q, ho, hw => fun c hc tm H => by
    obtain ⟨cb, rfl, hb⟩ := inv_block hc
    obtain ⟨ex, st', h1, L', h3, h2⟩ := Wp_sound hn b ho (show Wp P call inl k n d b s _ from hw) cb hb tm H
    cases ex with
    | norm => exact ⟨_, _, by unfold evalC; simp only [h1], L', h3, h2⟩
    | exit i =>
      simp only at h2
      by_cases hi : i = id
      · subst hi
        rw [show Nat.beq i i = true from Nat.beq_refl i] at h2
        exact ⟨_, _, by unfold evalC; simp only [h1, if_true], L', h3, h2⟩
      · have : Nat.beq i id = false := by
          cases hq : Nat.beq i id
          · rfl
          · exact (hi (Nat.eq_of_beq_eq_true hq)).elim
        rw [this] at h2
        exact ⟨_, _, by unfold evalC; simp only [h1]; rw [if_neg hi], L', h3, h2⟩
    | ret => exact ⟨_, _, by unfold evalC; simp only [h1], L', h3, h2⟩
    | pan v => exact ⟨_, _, by unfold evalC; simp only [h1], L', h3, h2⟩

/-- Loops: what is known at the head of each round. -/
theorem loopI (hn : n < 2 ^ d) {rc : RC} (ho : okR n rc = true) {α : Type} (S : α → LS) (I : α → Prop) (μ : α → Nat) {Q : Ex → LS → Prop} {s : LS} (x : α) (h0 : LS.sub (S x) s) (hx : I x) (hk : μ x < k)
    (step : ∀ x, I x → Wp P call inl k n d rc (S x) (fun ex s' => match ex with
      | .norm => ∃ y, I y ∧ μ y < μ x ∧ LS.sub (S y) s'
      | e => Q e s')) : OkR P call inl k n d (.loop rc) s Q := by
  intro c0 hc0
  obtain ⟨c, rfl, hc⟩ := inv_loop hc0
  have main : ∀ (m : Nat) (x : α) (s : LS) (tm : Tm), LS.sub (S x) s → I x → μ x < m → HasL n d s.L tm → ∃ ex st', loopN (evalC P call (drawA P inl call) k c) m ⟨tm, s.h, s.df⟩ = some (ex, st') ∧ ∃ L', HasL n d L' st'.tm ∧ Q ex ⟨L', st'.h, st'.df⟩ := by
    intro m
    induction m with
    | zero => intro x _ _ _ _ h; omega
    | succ m ih =>
      intro x s tm hs hx hm H
      obtain ⟨e1, e2, e3⟩ := hs
      obtain ⟨ex, st', h1, L', h3, h2⟩ := Wp_sound hn rc ho (step x hx) c hc tm (HasL.sub e1 H)
      rw [← e2, ← e3] at h1
      unfold loopN
      simp only [h1]
      cases ex with
      | norm =>
        obtain ⟨y, hy, hlt, hsub⟩ := h2
        exact ih y ⟨L', st'.h, st'.df⟩ st'.tm hsub hy (by omega) h3
      | exit i => exact ⟨_, _, rfl, L', h3, h2⟩
      | ret => exact ⟨_, _, rfl, L', h3, h2⟩
      | pan v => exact ⟨_, _, rfl, L', h3, h2⟩
  intro tm H
  obtain ⟨ex, st', h1, h2⟩ := main k x s tm h0 hx hk H
  exact ⟨ex, st', by unfold evalC; exact h1, h2⟩

/-- Where paths meet, what is needed is known. -/
theorem cutI (hn : n < 2 ^ d) {rc : RC} (ho : okR n rc = true) {Q : Ex → LS → Prop} {s t : LS} (hs : LS.sub t s) (hw : Wp P call inl k n d rc t Q) : OkR P call inl k n d rc s Q := by
  intro c hc tm H
  obtain ⟨e1, e2, e3⟩ := hs
  have := Wp_sound hn rc ho hw c hc tm (HasL.sub e1 H)
  rw [← e2, ← e3] at this
  exact this
end
end Go.Abs
