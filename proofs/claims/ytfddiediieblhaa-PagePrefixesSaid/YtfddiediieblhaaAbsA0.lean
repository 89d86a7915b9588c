/- A small machine that works on data: its values, its memory, its operations. Definitions alone. -/
import Derived.Orders
import Derived.LoopN
set_option linter.unusedVariables false
namespace Go.Abs

/-- Values of the small machine. 'undef': nothing is known. 'lst': a slice that nobody writes to. 'sl': a slice over a block of the machine's own. 'ptr': into such a block; 'pin': into cells that nobody writes to. -/
inductive AV where
  | undef
  | bool (b : Bool)
  | int (k : IntKind) (n : Int)
  | flt (k : FloatKind) (bits : Nat)
  | str (s : List UInt8)
  | nilp
  | ptr (b ver o : Nat)
  | pin (cs : List AV) (o : Nat)
  | lst (sz : Nat) (xs : List AV) (c0 : Bool)
  | sl (sz b ver o len : Nat)
  | mapn
  | map (b : Nat)
  | fn (f : Fn) (x y : List AV)
  | nilf
  | ifc (t : TypeId) (x : AV)
  | nili
  | agg (cs : List AV)
  | tup (cs : List AV)
  deriving Inhabited
end Go.Abs
