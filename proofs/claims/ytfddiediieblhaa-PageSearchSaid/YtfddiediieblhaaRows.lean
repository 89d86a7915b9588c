/-
  No cell of these rows narrows 'for every input' (looked for: loops, veiled, ifaces, maps, wideKeys, modest, calm, conditions, laid).
  DERIVED. THE GIVEN ROWS OF THIS SEAT. 4 by the template 'for every input the law returns true; each argument reads behind the call as it read before'; 0 by the template 'total and deterministic' (their statements: YtfddiediieblhaaTotals.lean).
  GIVEN WITH THE SEED: the statements are not yours to turn. If you find one false, say at which input.
  Laid BY PROGRAM, IN A SANDBOX (cutbox-rows.mjs): the forced cells as the released guide's own fill.sh prints them over the translation d9874aec62ac0eba… (all of the seat's roots in one cut). By AI agents, Wed Nov 11 2026. No macro, syntax, notation, axiom, sorry.
-/
import Derived.Test.YtfddiediieblhaaChecked
import GoSem.Claim
import GoSem.ClaimJoined
import GoSem.ClaimMapViews
import Derived.JoinedTies
import Derived.KernelRfl
namespace Go.Proofs.Ytfddiediieblhaa
/- THE CELL 'sum', in the pinned program and in every row, IS THE sha256 OF THE DUMP (.gsa) THAT YtfddiediieblhaaProg.lean LOADS. Nothing in Lean hashes anything: it is a label: what it is worth is what the hold of that sum in a sandbox is worth. -/
noncomputable def Try.pinned : Pinned := { name := "ytfddiediieblhaa", sum := "d9874aec62ac0ebae783cfe73cfe63d604932194cd1cb18388a4928b0e8db743", checked := Try.checked }
namespace Rows
def none {H : Type} : Left H := { results := [], args := [] }

/-- 'understorylaw04.PageDamage': WHATEVER THE INPUT: true; the input reads as it did. -/
def pageDamageSpec : ChangeSpec := { name := "pageDamage", fn := fun _ => fun
  | [d1, d2, d3, d4, d5] => { results := [.lit (.bool true)], args := [d1, d2, d3, d4, d5] }
  | _ => none }
def pageDamageRow : OpenClaim := { program := "ytfddiediieblhaa", sum := "d9874aec62ac0ebae783cfe73cfe63d604932194cd1cb18388a4928b0e8db743", func := "understory/understorylaw04.PageDamage", spec := "pageDamage", inPlace := ["internal/abi.NoEscape", "internal/bytealg.MakeNoZero"], unfollowed := true, recurses := true, apart := false }
def PageDamageSaid : Prop := pageDamageRow.holds Try.pinned (OpenSpec.ofChange pageDamageSpec)

/-- ITS FALSE NEIGHBOUR: 'it returns false'. Refute it at one input. -/
def pageDamageWrong : ChangeSpec := { name := "pageDamage", fn := fun _ => fun
  | [d1, d2, d3, d4, d5] => { results := [.lit (.bool false)], args := [d1, d2, d3, d4, d5] }
  | _ => none }
def PageDamageWrongFalsely : Prop := pageDamageRow.holds Try.pinned (OpenSpec.ofChange pageDamageWrong)

/-- 'understorylaw04.PagePrefixes': WHATEVER THE INPUT: true; the input reads as it did. -/
def pagePrefixesSpec : ChangeSpec := { name := "pagePrefixes", fn := fun _ => fun
  | [d1, d2, d3] => { results := [.lit (.bool true)], args := [d1, d2, d3] }
  | _ => none }
def pagePrefixesRow : OpenClaim := { program := "ytfddiediieblhaa", sum := "d9874aec62ac0ebae783cfe73cfe63d604932194cd1cb18388a4928b0e8db743", func := "understory/understorylaw04.PagePrefixes", spec := "pagePrefixes", inPlace := ["internal/abi.NoEscape", "internal/bytealg.MakeNoZero"], unfollowed := true, recurses := true, apart := false }
def PagePrefixesSaid : Prop := pagePrefixesRow.holds Try.pinned (OpenSpec.ofChange pagePrefixesSpec)

/-- ITS FALSE NEIGHBOUR: 'it returns false'. Refute it at one input. -/
def pagePrefixesWrong : ChangeSpec := { name := "pagePrefixes", fn := fun _ => fun
  | [d1, d2, d3] => { results := [.lit (.bool false)], args := [d1, d2, d3] }
  | _ => none }
def PagePrefixesWrongFalsely : Prop := pagePrefixesRow.holds Try.pinned (OpenSpec.ofChange pagePrefixesWrong)

/-- 'understorylaw04.PageCapacity': WHATEVER THE INPUT: true; the input reads as it did. -/
def pageCapacitySpec : ChangeSpec := { name := "pageCapacity", fn := fun _ => fun
  | [d1, d2, d3] => { results := [.lit (.bool true)], args := [d1, d2, d3] }
  | _ => none }
def pageCapacityRow : OpenClaim := { program := "ytfddiediieblhaa", sum := "d9874aec62ac0ebae783cfe73cfe63d604932194cd1cb18388a4928b0e8db743", func := "understory/understorylaw04.PageCapacity", spec := "pageCapacity", inPlace := ["internal/abi.NoEscape", "internal/bytealg.MakeNoZero"], unfollowed := true, recurses := true, apart := false }
def PageCapacitySaid : Prop := pageCapacityRow.holds Try.pinned (OpenSpec.ofChange pageCapacitySpec)

/-- ITS FALSE NEIGHBOUR: 'it returns false'. Refute it at one input. -/
def pageCapacityWrong : ChangeSpec := { name := "pageCapacity", fn := fun _ => fun
  | [d1, d2, d3] => { results := [.lit (.bool false)], args := [d1, d2, d3] }
  | _ => none }
def PageCapacityWrongFalsely : Prop := pageCapacityRow.holds Try.pinned (OpenSpec.ofChange pageCapacityWrong)

/-- 'understorylaw04.PageSearch': WHATEVER THE INPUT: true; the input reads as it did. -/
def pageSearchSpec : ChangeSpec := { name := "pageSearch", fn := fun _ => fun
  | [d1, d2] => { results := [.lit (.bool true)], args := [d1, d2] }
  | _ => none }
def pageSearchRow : OpenClaim := { program := "ytfddiediieblhaa", sum := "d9874aec62ac0ebae783cfe73cfe63d604932194cd1cb18388a4928b0e8db743", func := "understory/understorylaw04.PageSearch", spec := "pageSearch", inPlace := ["internal/abi.NoEscape", "internal/bytealg.MakeNoZero"], unfollowed := true, recurses := true, apart := false }
def PageSearchSaid : Prop := pageSearchRow.holds Try.pinned (OpenSpec.ofChange pageSearchSpec)

/-- ITS FALSE NEIGHBOUR: 'it returns false'. Refute it at one input. -/
def pageSearchWrong : ChangeSpec := { name := "pageSearch", fn := fun _ => fun
  | [d1, d2] => { results := [.lit (.bool false)], args := [d1, d2] }
  | _ => none }
def PageSearchWrongFalsely : Prop := pageSearchRow.holds Try.pinned (OpenSpec.ofChange pageSearchWrong)

/- THE SECOND FORM. 'bulk': how many values and letters a reading holds, each counted each time it is reached (what is shared counts as often as it is met; a slice's spare places count too). A statement '..UptoSaid' is the law's where the arguments, and the package variables that the reading takes, are together of bulk at most 1048576: NARROWER than '..Said'. Prove '..Said' where nothing that the law and all that it calls make is longer than what came in: it says more and counts as full. Else prove '..UptoSaid'. A law counts once. -/
mutual
def uptoBulk {H : Type} : DataW H → Nat
  | .lit (.string bytes) => bytes.length + 1
  | .lit _ => 1
  | .nil => 1
  | .ptr d => uptoBulk d + 1
  | .slice elems spare => uptoBulkAll elems + uptoBulkAll spare + 1
  | .agg parts => uptoBulkAll parts + 1
  | .iface _ d => uptoBulk d + 1
  | .map entries => uptoBulkEntries entries + 1
  | .held _ => 1
def uptoBulkAll {H : Type} : List (DataW H) → Nat
  | [] => 0
  | d :: r => uptoBulk d + uptoBulkAll r
def uptoBulkEntries {H : Type} : List (Lit × DataW H) → Nat
  | [] => 0
  | x :: r => uptoBulkEntry x + uptoBulkEntries r
def uptoBulkEntry {H : Type} : Lit × DataW H → Nat
  | (.string bytes, d) => bytes.length + uptoBulk d + 1
  | (_, d) => uptoBulk d + 1
 end
def uptoSmall : (H : Type) → List (DataW H) → Bool := fun _ ds => decide (uptoBulkAll ds ≤ 1048576)
def OpenSpec.upto (s : _root_.Go.ChangeSpec) : _root_.Go.OpenSpec := { _root_.Go.OpenSpec.ofChange s with cond := some uptoSmall }

/-- 'understorylaw04.PageDamage', WHERE WHAT IT READS IS OF BULK AT MOST 1048576: true; the input reads as it did. -/
def pageDamageUptoRow : OpenClaim := { program := "ytfddiediieblhaa", sum := "d9874aec62ac0ebae783cfe73cfe63d604932194cd1cb18388a4928b0e8db743", func := "understory/understorylaw04.PageDamage", spec := "pageDamage", inPlace := ["internal/abi.NoEscape", "internal/bytealg.MakeNoZero"], unfollowed := true, recurses := true, apart := false, narrowed := true }
def PageDamageUptoSaid : Prop := pageDamageUptoRow.holds Try.pinned (OpenSpec.upto pageDamageSpec)

/-- 'understorylaw04.PagePrefixes', WHERE WHAT IT READS IS OF BULK AT MOST 1048576: true; the input reads as it did. -/
def pagePrefixesUptoRow : OpenClaim := { program := "ytfddiediieblhaa", sum := "d9874aec62ac0ebae783cfe73cfe63d604932194cd1cb18388a4928b0e8db743", func := "understory/understorylaw04.PagePrefixes", spec := "pagePrefixes", inPlace := ["internal/abi.NoEscape", "internal/bytealg.MakeNoZero"], unfollowed := true, recurses := true, apart := false, narrowed := true }
def PagePrefixesUptoSaid : Prop := pagePrefixesUptoRow.holds Try.pinned (OpenSpec.upto pagePrefixesSpec)

/-- 'understorylaw04.PageCapacity', WHERE WHAT IT READS IS OF BULK AT MOST 1048576: true; the input reads as it did. -/
def pageCapacityUptoRow : OpenClaim := { program := "ytfddiediieblhaa", sum := "d9874aec62ac0ebae783cfe73cfe63d604932194cd1cb18388a4928b0e8db743", func := "understory/understorylaw04.PageCapacity", spec := "pageCapacity", inPlace := ["internal/abi.NoEscape", "internal/bytealg.MakeNoZero"], unfollowed := true, recurses := true, apart := false, narrowed := true }
def PageCapacityUptoSaid : Prop := pageCapacityUptoRow.holds Try.pinned (OpenSpec.upto pageCapacitySpec)

/-- 'understorylaw04.PageSearch', WHERE WHAT IT READS IS OF BULK AT MOST 1048576: true; the input reads as it did. -/
def pageSearchUptoRow : OpenClaim := { program := "ytfddiediieblhaa", sum := "d9874aec62ac0ebae783cfe73cfe63d604932194cd1cb18388a4928b0e8db743", func := "understory/understorylaw04.PageSearch", spec := "pageSearch", inPlace := ["internal/abi.NoEscape", "internal/bytealg.MakeNoZero"], unfollowed := true, recurses := true, apart := false, narrowed := true }
def PageSearchUptoSaid : Prop := pageSearchUptoRow.holds Try.pinned (OpenSpec.upto pageSearchSpec)

end Rows
end Go.Proofs.Ytfddiediieblhaa
