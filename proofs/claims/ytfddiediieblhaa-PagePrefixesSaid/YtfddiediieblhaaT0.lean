/- Which functions work in their caller's memory. -/
import Derived.Test.YtfddiediieblhaaAbsU
import Derived.Test.YtfddiediieblhaaProg
import Derived.KernelRfl
namespace Go.Proofs
open Go Go.Abs
def inlL : List Nat := [26,27,29,31,33,56,59,71,97,98,99,100,101,102,61,73,81,63,74,78,79,62]
def inl0 : FuncId → Bool := fun f => inlL.contains f || decide (104 ≤ f)
abbrev FI := FunIs Try.prog inl0
end Go.Proofs
