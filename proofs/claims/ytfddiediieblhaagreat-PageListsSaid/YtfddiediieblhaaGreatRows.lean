/-
  No cell of these rows narrows 'for every input' (looked for: loops, veiled, ifaces, maps, wideKeys, modest, calm, conditions, laid).
  DERIVED. THE GIVEN ROWS OF THIS SEAT. 6 by the template 'for every input the law returns true; each argument reads behind the call as it read before'; 0 by the template 'total and deterministic' (their statements: YtfddiediieblhaaGreatTotals.lean).
  GIVEN WITH THE SEED: the statements are not yours to turn. If you find one false, say at which input.
  Laid BY PROGRAM, IN A SANDBOX (cutbox-rows.mjs): the forced cells as the released guide's own fill.sh prints them over the translation 3a3e3fd6ca53686e… (all of the seat's roots in one cut). By AI agents, Wed Nov 11 2026. No macro, syntax, notation, axiom, sorry.
-/
import Derived.Test.YtfddiediieblhaaGreatChecked
import GoSem.Claim
import GoSem.ClaimJoined
import GoSem.ClaimMapViews
import Derived.JoinedTies
import Derived.KernelRfl
namespace Go.Proofs.YtfddiediieblhaaGreat
/- THE CELL 'sum', in the pinned program and in every row, IS THE sha256 OF THE DUMP (.gsa) THAT YtfddiediieblhaaGreatProg.lean LOADS. Nothing in Lean hashes anything: it is a label: what it is worth is what the hold of that sum in a sandbox is worth. -/
noncomputable def Tryz.pinned : Pinned := { name := "ytfddiediieblhaagreat", sum := "3a3e3fd6ca53686eddc00ed0428a720cfbd91628115b2300aa005addbb7647ff", checked := Tryz.checked }
namespace Rows
def none {H : Type} : Left H := { results := [], args := [] }

/-- 'understorylaw04.PageChecks': WHATEVER THE INPUT: true; the input reads as it did. -/
def pageChecksSpec : ChangeSpec := { name := "pageChecks", fn := fun _ => fun
  | [d1, d2] => { results := [.lit (.bool true)], args := [d1, d2] }
  | _ => none }
def pageChecksRow : OpenClaim := { program := "ytfddiediieblhaagreat", sum := "3a3e3fd6ca53686eddc00ed0428a720cfbd91628115b2300aa005addbb7647ff", func := "understory/understorylaw04.PageChecks", spec := "pageChecks", inPlace := ["internal/abi.NoEscape", "internal/bytealg.MakeNoZero"], unfollowed := true, recurses := true, apart := false }
def PageChecksSaid : Prop := pageChecksRow.holds Tryz.pinned (OpenSpec.ofChange pageChecksSpec)

/-- ITS FALSE NEIGHBOUR: 'it returns false'. Refute it at one input. -/
def pageChecksWrong : ChangeSpec := { name := "pageChecks", fn := fun _ => fun
  | [d1, d2] => { results := [.lit (.bool false)], args := [d1, d2] }
  | _ => none }
def PageChecksWrongFalsely : Prop := pageChecksRow.holds Tryz.pinned (OpenSpec.ofChange pageChecksWrong)

/-- 'understorylaw04.PageFinds': WHATEVER THE INPUT: true; the input reads as it did. -/
def pageFindsSpec : ChangeSpec := { name := "pageFinds", fn := fun _ => fun
  | [d1, d2, d3, d4, d5] => { results := [.lit (.bool true)], args := [d1, d2, d3, d4, d5] }
  | _ => none }
def pageFindsRow : OpenClaim := { program := "ytfddiediieblhaagreat", sum := "3a3e3fd6ca53686eddc00ed0428a720cfbd91628115b2300aa005addbb7647ff", func := "understory/understorylaw04.PageFinds", spec := "pageFinds", inPlace := ["internal/abi.NoEscape", "internal/bytealg.MakeNoZero"], unfollowed := true, recurses := true, apart := false }
def PageFindsSaid : Prop := pageFindsRow.holds Tryz.pinned (OpenSpec.ofChange pageFindsSpec)

/-- ITS FALSE NEIGHBOUR: 'it returns false'. Refute it at one input. -/
def pageFindsWrong : ChangeSpec := { name := "pageFinds", fn := fun _ => fun
  | [d1, d2, d3, d4, d5] => { results := [.lit (.bool false)], args := [d1, d2, d3, d4, d5] }
  | _ => none }
def PageFindsWrongFalsely : Prop := pageFindsRow.holds Tryz.pinned (OpenSpec.ofChange pageFindsWrong)

/-- 'understorylaw04.PageContents': WHATEVER THE INPUT: true; the input reads as it did. -/
def pageContentsSpec : ChangeSpec := { name := "pageContents", fn := fun _ => fun
  | [d1, d2, d3, d4] => { results := [.lit (.bool true)], args := [d1, d2, d3, d4] }
  | _ => none }
def pageContentsRow : OpenClaim := { program := "ytfddiediieblhaagreat", sum := "3a3e3fd6ca53686eddc00ed0428a720cfbd91628115b2300aa005addbb7647ff", func := "understory/understorylaw04.PageContents", spec := "pageContents", inPlace := ["internal/abi.NoEscape", "internal/bytealg.MakeNoZero", "math.sqrt", "math.Float64bits", "math.Float64frombits"], unfollowed := true, recurses := true, apart := false }
def PageContentsSaid : Prop := pageContentsRow.holds Tryz.pinned (OpenSpec.ofChange pageContentsSpec)

/-- ITS FALSE NEIGHBOUR: 'it returns false'. Refute it at one input. -/
def pageContentsWrong : ChangeSpec := { name := "pageContents", fn := fun _ => fun
  | [d1, d2, d3, d4] => { results := [.lit (.bool false)], args := [d1, d2, d3, d4] }
  | _ => none }
def PageContentsWrongFalsely : Prop := pageContentsRow.holds Tryz.pinned (OpenSpec.ofChange pageContentsWrong)

/-- 'understorylaw04.PageChains': WHATEVER THE INPUT: true; the input reads as it did. -/
def pageChainsSpec : ChangeSpec := { name := "pageChains", fn := fun _ => fun
  | [d1, d2, d3, d4] => { results := [.lit (.bool true)], args := [d1, d2, d3, d4] }
  | _ => none }
def pageChainsRow : OpenClaim := { program := "ytfddiediieblhaagreat", sum := "3a3e3fd6ca53686eddc00ed0428a720cfbd91628115b2300aa005addbb7647ff", func := "understory/understorylaw04.PageChains", spec := "pageChains", inPlace := ["internal/abi.NoEscape", "internal/bytealg.MakeNoZero"], unfollowed := true, recurses := true, apart := false }
def PageChainsSaid : Prop := pageChainsRow.holds Tryz.pinned (OpenSpec.ofChange pageChainsSpec)

/-- ITS FALSE NEIGHBOUR: 'it returns false'. Refute it at one input. -/
def pageChainsWrong : ChangeSpec := { name := "pageChains", fn := fun _ => fun
  | [d1, d2, d3, d4] => { results := [.lit (.bool false)], args := [d1, d2, d3, d4] }
  | _ => none }
def PageChainsWrongFalsely : Prop := pageChainsRow.holds Tryz.pinned (OpenSpec.ofChange pageChainsWrong)

/-- 'understorylaw04.PageLists': WHATEVER THE INPUT: true; the input reads as it did. -/
def pageListsSpec : ChangeSpec := { name := "pageLists", fn := fun _ => fun
  | [d1, d2, d3, d4] => { results := [.lit (.bool true)], args := [d1, d2, d3, d4] }
  | _ => none }
def pageListsRow : OpenClaim := { program := "ytfddiediieblhaagreat", sum := "3a3e3fd6ca53686eddc00ed0428a720cfbd91628115b2300aa005addbb7647ff", func := "understory/understorylaw04.PageLists", spec := "pageLists", inPlace := ["internal/abi.NoEscape", "internal/bytealg.MakeNoZero"], unfollowed := true, recurses := true, apart := false }
def PageListsSaid : Prop := pageListsRow.holds Tryz.pinned (OpenSpec.ofChange pageListsSpec)

/-- ITS FALSE NEIGHBOUR: 'it returns false'. Refute it at one input. -/
def pageListsWrong : ChangeSpec := { name := "pageLists", fn := fun _ => fun
  | [d1, d2, d3, d4] => { results := [.lit (.bool false)], args := [d1, d2, d3, d4] }
  | _ => none }
def PageListsWrongFalsely : Prop := pageListsRow.holds Tryz.pinned (OpenSpec.ofChange pageListsWrong)

/-- 'understorylaw04.PageBack': WHATEVER THE INPUT: true; the input reads as it did. -/
def pageBackSpec : ChangeSpec := { name := "pageBack", fn := fun _ => fun
  | [d1, d2, d3, d4, d5, d6] => { results := [.lit (.bool true)], args := [d1, d2, d3, d4, d5, d6] }
  | _ => none }
def pageBackRow : OpenClaim := { program := "ytfddiediieblhaagreat", sum := "3a3e3fd6ca53686eddc00ed0428a720cfbd91628115b2300aa005addbb7647ff", func := "understory/understorylaw04.PageBack", spec := "pageBack", inPlace := ["internal/abi.NoEscape", "internal/bytealg.MakeNoZero"], unfollowed := true, recurses := true, apart := false }
def PageBackSaid : Prop := pageBackRow.holds Tryz.pinned (OpenSpec.ofChange pageBackSpec)

/-- ITS FALSE NEIGHBOUR: 'it returns false'. Refute it at one input. -/
def pageBackWrong : ChangeSpec := { name := "pageBack", fn := fun _ => fun
  | [d1, d2, d3, d4, d5, d6] => { results := [.lit (.bool false)], args := [d1, d2, d3, d4, d5, d6] }
  | _ => none }
def PageBackWrongFalsely : Prop := pageBackRow.holds Tryz.pinned (OpenSpec.ofChange pageBackWrong)

/- THE SECOND FORM. 'bulk': how many values and letters a reading holds, each counted each time it is reached (what is shared counts as often as it is met; a slice's spare places count too). A statement '..UptoSaid' is the law's where the arguments, and the package variables that the reading takes, are together of bulk at most 1048576: NARROWER than '..Said'. Prove '..Said' where nothing that the law and all that it calls make is longer than what came in: it says more and counts as full. Else prove '..UptoSaid'. A law counts once. -/
mutual
def uptoBulk {H : Type} : DataW H → Nat
  | .lit (.string bytes) => bytes.length + 1
  | .lit _ => 1
  | .nil => 1
  | .ptr d => uptoBulk d + 1
  | .slice elems spare => uptoBulkAll elems + uptoBulkAll spare + 1
  | .agg parts => uptoBulkAll parts + 1
  | .iface _ d => uptoBulk d + 1
  | .map entries => uptoBulkEntries entries + 1
  | .held _ => 1
def uptoBulkAll {H : Type} : List (DataW H) → Nat
  | [] => 0
  | d :: r => uptoBulk d + uptoBulkAll r
def uptoBulkEntries {H : Type} : List (Lit × DataW H) → Nat
  | [] => 0
  | x :: r => uptoBulkEntry x + uptoBulkEntries r
def uptoBulkEntry {H : Type} : Lit × DataW H → Nat
  | (.string bytes, d) => bytes.length + uptoBulk d + 1
  | (_, d) => uptoBulk d + 1
 end
def uptoSmall : (H : Type) → List (DataW H) → Bool := fun _ ds => decide (uptoBulkAll ds ≤ 1048576)
def OpenSpec.upto (s : _root_.Go.ChangeSpec) : _root_.Go.OpenSpec := { _root_.Go.OpenSpec.ofChange s with cond := some uptoSmall }

/-- 'understorylaw04.PageChecks', WHERE WHAT IT READS IS OF BULK AT MOST 1048576: true; the input reads as it did. -/
def pageChecksUptoRow : OpenClaim := { program := "ytfddiediieblhaagreat", sum := "3a3e3fd6ca53686eddc00ed0428a720cfbd91628115b2300aa005addbb7647ff", func := "understory/understorylaw04.PageChecks", spec := "pageChecks", inPlace := ["internal/abi.NoEscape", "internal/bytealg.MakeNoZero"], unfollowed := true, recurses := true, apart := false, narrowed := true }
def PageChecksUptoSaid : Prop := pageChecksUptoRow.holds Tryz.pinned (OpenSpec.upto pageChecksSpec)

/-- 'understorylaw04.PageFinds', WHERE WHAT IT READS IS OF BULK AT MOST 1048576: true; the input reads as it did. -/
def pageFindsUptoRow : OpenClaim := { program := "ytfddiediieblhaagreat", sum := "3a3e3fd6ca53686eddc00ed0428a720cfbd91628115b2300aa005addbb7647ff", func := "understory/understorylaw04.PageFinds", spec := "pageFinds", inPlace := ["internal/abi.NoEscape", "internal/bytealg.MakeNoZero"], unfollowed := true, recurses := true, apart := false, narrowed := true }
def PageFindsUptoSaid : Prop := pageFindsUptoRow.holds Tryz.pinned (OpenSpec.upto pageFindsSpec)

/-- 'understorylaw04.PageContents', WHERE WHAT IT READS IS OF BULK AT MOST 1048576: true; the input reads as it did. -/
def pageContentsUptoRow : OpenClaim := { program := "ytfddiediieblhaagreat", sum := "3a3e3fd6ca53686eddc00ed0428a720cfbd91628115b2300aa005addbb7647ff", func := "understory/understorylaw04.PageContents", spec := "pageContents", inPlace := ["internal/abi.NoEscape", "internal/bytealg.MakeNoZero", "math.sqrt", "math.Float64bits", "math.Float64frombits"], unfollowed := true, recurses := true, apart := false, narrowed := true }
def PageContentsUptoSaid : Prop := pageContentsUptoRow.holds Tryz.pinned (OpenSpec.upto pageContentsSpec)

/-- 'understorylaw04.PageChains', WHERE WHAT IT READS IS OF BULK AT MOST 1048576: true; the input reads as it did. -/
def pageChainsUptoRow : OpenClaim := { program := "ytfddiediieblhaagreat", sum := "3a3e3fd6ca53686eddc00ed0428a720cfbd91628115b2300aa005addbb7647ff", func := "understory/understorylaw04.PageChains", spec := "pageChains", inPlace := ["internal/abi.NoEscape", "internal/bytealg.MakeNoZero"], unfollowed := true, recurses := true, apart := false, narrowed := true }
def PageChainsUptoSaid : Prop := pageChainsUptoRow.holds Tryz.pinned (OpenSpec.upto pageChainsSpec)

/-- 'understorylaw04.PageLists', WHERE WHAT IT READS IS OF BULK AT MOST 1048576: true; the input reads as it did. -/
def pageListsUptoRow : OpenClaim := { program := "ytfddiediieblhaagreat", sum := "3a3e3fd6ca53686eddc00ed0428a720cfbd91628115b2300aa005addbb7647ff", func := "understory/understorylaw04.PageLists", spec := "pageLists", inPlace := ["internal/abi.NoEscape", "internal/bytealg.MakeNoZero"], unfollowed := true, recurses := true, apart := false, narrowed := true }
def PageListsUptoSaid : Prop := pageListsUptoRow.holds Tryz.pinned (OpenSpec.upto pageListsSpec)

/-- 'understorylaw04.PageBack', WHERE WHAT IT READS IS OF BULK AT MOST 1048576: true; the input reads as it did. -/
def pageBackUptoRow : OpenClaim := { program := "ytfddiediieblhaagreat", sum := "3a3e3fd6ca53686eddc00ed0428a720cfbd91628115b2300aa005addbb7647ff", func := "understory/understorylaw04.PageBack", spec := "pageBack", inPlace := ["internal/abi.NoEscape", "internal/bytealg.MakeNoZero"], unfollowed := true, recurses := true, apart := false, narrowed := true }
def PageBackUptoSaid : Prop := pageBackUptoRow.holds Tryz.pinned (OpenSpec.upto pageBackSpec)

end Rows
end Go.Proofs.YtfddiediieblhaaGreat
