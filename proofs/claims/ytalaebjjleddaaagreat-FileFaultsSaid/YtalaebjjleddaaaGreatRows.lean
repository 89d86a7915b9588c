/-
  No cell of these rows narrows 'for every input' (looked for: loops, veiled, ifaces, maps, wideKeys, modest, calm, conditions, laid).
  DERIVED. THE GIVEN ROWS OF THIS SEAT. 11 by the template 'for every input the law returns true; each argument reads behind the call as it read before'; 0 by the template 'total and deterministic' (their statements: YtalaebjjleddaaaGreatTotals.lean).
  GIVEN WITH THE SEED: the statements are not yours to turn. If you find one false, say at which input.
  Laid BY PROGRAM, IN A SANDBOX (cutbox-rows.mjs): the forced cells as the released guide's own fill.sh prints them over the translation 24bcf096170c862b… (all of the seat's roots in one cut). By AI agents, Wed Nov 11 2026. No macro, syntax, notation, axiom, sorry.
-/
import Derived.Test.YtalaebjjleddaaaGreatChecked
import GoSem.Claim
import GoSem.ClaimJoined
import GoSem.ClaimMapViews
import Derived.JoinedTies
import Derived.KernelRfl
namespace Go.Proofs.YtalaebjjleddaaaGreat
/- THE CELL 'sum', in the pinned program and in every row, IS THE sha256 OF THE DUMP (.gsa) THAT YtalaebjjleddaaaGreatProg.lean LOADS. Nothing in Lean hashes anything: it is a label: what it is worth is what the hold of that sum in a sandbox is worth. -/
noncomputable def Tryz.pinned : Pinned := { name := "ytalaebjjleddaaagreat", sum := "24bcf096170c862be9d6790379d05fbcc4390b5a4e3d0dad2a85c9da2b09e166", checked := Tryz.checked }
namespace Rows
def none {H : Type} : Left H := { results := [], args := [] }

/-- 'understorylaw05.FileRecords': WHATEVER THE INPUT: true; the input reads as it did. -/
def fileRecordsSpec : ChangeSpec := { name := "fileRecords", fn := fun _ => fun
  | [d1, d2] => { results := [.lit (.bool true)], args := [d1, d2] }
  | _ => none }
def fileRecordsRow : OpenClaim := { program := "ytalaebjjleddaaagreat", sum := "24bcf096170c862be9d6790379d05fbcc4390b5a4e3d0dad2a85c9da2b09e166", func := "understory/understorylaw05.FileRecords", spec := "fileRecords", inPlace := ["internal/abi.NoEscape", "internal/bytealg.MakeNoZero"], unfollowed := true, recurses := true, apart := false }
def FileRecordsSaid : Prop := fileRecordsRow.holds Tryz.pinned (OpenSpec.ofChange fileRecordsSpec)

/-- ITS FALSE NEIGHBOUR: 'it returns false'. Refute it at one input. -/
def fileRecordsWrong : ChangeSpec := { name := "fileRecords", fn := fun _ => fun
  | [d1, d2] => { results := [.lit (.bool false)], args := [d1, d2] }
  | _ => none }
def FileRecordsWrongFalsely : Prop := fileRecordsRow.holds Tryz.pinned (OpenSpec.ofChange fileRecordsWrong)

/-- 'understorylaw05.FileSteps': WHATEVER THE INPUT: true; the input reads as it did. -/
def fileStepsSpec : ChangeSpec := { name := "fileSteps", fn := fun _ => fun
  | [d1, d2, d3, d4, d5] => { results := [.lit (.bool true)], args := [d1, d2, d3, d4, d5] }
  | _ => none }
def fileStepsRow : OpenClaim := { program := "ytalaebjjleddaaagreat", sum := "24bcf096170c862be9d6790379d05fbcc4390b5a4e3d0dad2a85c9da2b09e166", func := "understory/understorylaw05.FileSteps", spec := "fileSteps", inPlace := ["internal/abi.NoEscape", "internal/bytealg.MakeNoZero"], unfollowed := true, recurses := true, apart := false }
def FileStepsSaid : Prop := fileStepsRow.holds Tryz.pinned (OpenSpec.ofChange fileStepsSpec)

/-- ITS FALSE NEIGHBOUR: 'it returns false'. Refute it at one input. -/
def fileStepsWrong : ChangeSpec := { name := "fileSteps", fn := fun _ => fun
  | [d1, d2, d3, d4, d5] => { results := [.lit (.bool false)], args := [d1, d2, d3, d4, d5] }
  | _ => none }
def FileStepsWrongFalsely : Prop := fileStepsRow.holds Tryz.pinned (OpenSpec.ofChange fileStepsWrong)

/-- 'understorylaw05.FileBack': WHATEVER THE INPUT: true; the input reads as it did. -/
def fileBackSpec : ChangeSpec := { name := "fileBack", fn := fun _ => fun
  | [d1, d2, d3, d4] => { results := [.lit (.bool true)], args := [d1, d2, d3, d4] }
  | _ => none }
def fileBackRow : OpenClaim := { program := "ytalaebjjleddaaagreat", sum := "24bcf096170c862be9d6790379d05fbcc4390b5a4e3d0dad2a85c9da2b09e166", func := "understory/understorylaw05.FileBack", spec := "fileBack", inPlace := ["internal/abi.NoEscape", "internal/bytealg.MakeNoZero"], unfollowed := true, recurses := true, apart := false }
def FileBackSaid : Prop := fileBackRow.holds Tryz.pinned (OpenSpec.ofChange fileBackSpec)

/-- ITS FALSE NEIGHBOUR: 'it returns false'. Refute it at one input. -/
def fileBackWrong : ChangeSpec := { name := "fileBack", fn := fun _ => fun
  | [d1, d2, d3, d4] => { results := [.lit (.bool false)], args := [d1, d2, d3, d4] }
  | _ => none }
def FileBackWrongFalsely : Prop := fileBackRow.holds Tryz.pinned (OpenSpec.ofChange fileBackWrong)

/-- 'understorylaw05.FileAtomic': WHATEVER THE INPUT: true; the input reads as it did. -/
def fileAtomicSpec : ChangeSpec := { name := "fileAtomic", fn := fun _ => fun
  | [d1, d2, d3, d4, d5] => { results := [.lit (.bool true)], args := [d1, d2, d3, d4, d5] }
  | _ => none }
def fileAtomicRow : OpenClaim := { program := "ytalaebjjleddaaagreat", sum := "24bcf096170c862be9d6790379d05fbcc4390b5a4e3d0dad2a85c9da2b09e166", func := "understory/understorylaw05.FileAtomic", spec := "fileAtomic", inPlace := ["internal/abi.NoEscape", "internal/bytealg.MakeNoZero"], unfollowed := true, recurses := true, apart := false }
def FileAtomicSaid : Prop := fileAtomicRow.holds Tryz.pinned (OpenSpec.ofChange fileAtomicSpec)

/-- ITS FALSE NEIGHBOUR: 'it returns false'. Refute it at one input. -/
def fileAtomicWrong : ChangeSpec := { name := "fileAtomic", fn := fun _ => fun
  | [d1, d2, d3, d4, d5] => { results := [.lit (.bool false)], args := [d1, d2, d3, d4, d5] }
  | _ => none }
def FileAtomicWrongFalsely : Prop := fileAtomicRow.holds Tryz.pinned (OpenSpec.ofChange fileAtomicWrong)

/-- 'understorylaw05.FileLoads': WHATEVER THE INPUT: true; the input reads as it did. -/
def fileLoadsSpec : ChangeSpec := { name := "fileLoads", fn := fun _ => fun
  | [d1, d2] => { results := [.lit (.bool true)], args := [d1, d2] }
  | _ => none }
def fileLoadsRow : OpenClaim := { program := "ytalaebjjleddaaagreat", sum := "24bcf096170c862be9d6790379d05fbcc4390b5a4e3d0dad2a85c9da2b09e166", func := "understory/understorylaw05.FileLoads", spec := "fileLoads", inPlace := ["internal/abi.NoEscape", "internal/bytealg.MakeNoZero"], unfollowed := true, recurses := true, apart := false }
def FileLoadsSaid : Prop := fileLoadsRow.holds Tryz.pinned (OpenSpec.ofChange fileLoadsSpec)

/-- ITS FALSE NEIGHBOUR: 'it returns false'. Refute it at one input. -/
def fileLoadsWrong : ChangeSpec := { name := "fileLoads", fn := fun _ => fun
  | [d1, d2] => { results := [.lit (.bool false)], args := [d1, d2] }
  | _ => none }
def FileLoadsWrongFalsely : Prop := fileLoadsRow.holds Tryz.pinned (OpenSpec.ofChange fileLoadsWrong)

/-- 'understorylaw05.FileReads': WHATEVER THE INPUT: true; the input reads as it did. -/
def fileReadsSpec : ChangeSpec := { name := "fileReads", fn := fun _ => fun
  | [d1, d2, d3] => { results := [.lit (.bool true)], args := [d1, d2, d3] }
  | _ => none }
def fileReadsRow : OpenClaim := { program := "ytalaebjjleddaaagreat", sum := "24bcf096170c862be9d6790379d05fbcc4390b5a4e3d0dad2a85c9da2b09e166", func := "understory/understorylaw05.FileReads", spec := "fileReads", inPlace := ["internal/abi.NoEscape", "internal/bytealg.MakeNoZero"], unfollowed := true, recurses := true, apart := false }
def FileReadsSaid : Prop := fileReadsRow.holds Tryz.pinned (OpenSpec.ofChange fileReadsSpec)

/-- ITS FALSE NEIGHBOUR: 'it returns false'. Refute it at one input. -/
def fileReadsWrong : ChangeSpec := { name := "fileReads", fn := fun _ => fun
  | [d1, d2, d3] => { results := [.lit (.bool false)], args := [d1, d2, d3] }
  | _ => none }
def FileReadsWrongFalsely : Prop := fileReadsRow.holds Tryz.pinned (OpenSpec.ofChange fileReadsWrong)

/-- 'understorylaw05.FilePages': WHATEVER THE INPUT: true; the input reads as it did. -/
def filePagesSpec : ChangeSpec := { name := "filePages", fn := fun _ => fun
  | [d1, d2] => { results := [.lit (.bool true)], args := [d1, d2] }
  | _ => none }
def filePagesRow : OpenClaim := { program := "ytalaebjjleddaaagreat", sum := "24bcf096170c862be9d6790379d05fbcc4390b5a4e3d0dad2a85c9da2b09e166", func := "understory/understorylaw05.FilePages", spec := "filePages", inPlace := ["internal/abi.NoEscape", "internal/bytealg.MakeNoZero"], unfollowed := true, recurses := true, apart := false }
def FilePagesSaid : Prop := filePagesRow.holds Tryz.pinned (OpenSpec.ofChange filePagesSpec)

/-- ITS FALSE NEIGHBOUR: 'it returns false'. Refute it at one input. -/
def filePagesWrong : ChangeSpec := { name := "filePages", fn := fun _ => fun
  | [d1, d2] => { results := [.lit (.bool false)], args := [d1, d2] }
  | _ => none }
def FilePagesWrongFalsely : Prop := filePagesRow.holds Tryz.pinned (OpenSpec.ofChange filePagesWrong)

/-- 'understorylaw05.FileWrites': WHATEVER THE INPUT: true; the input reads as it did. -/
def fileWritesSpec : ChangeSpec := { name := "fileWrites", fn := fun _ => fun
  | [d1, d2, d3] => { results := [.lit (.bool true)], args := [d1, d2, d3] }
  | _ => none }
def fileWritesRow : OpenClaim := { program := "ytalaebjjleddaaagreat", sum := "24bcf096170c862be9d6790379d05fbcc4390b5a4e3d0dad2a85c9da2b09e166", func := "understory/understorylaw05.FileWrites", spec := "fileWrites", inPlace := ["internal/abi.NoEscape", "internal/bytealg.MakeNoZero"], unfollowed := true, recurses := true, apart := false }
def FileWritesSaid : Prop := fileWritesRow.holds Tryz.pinned (OpenSpec.ofChange fileWritesSpec)

/-- ITS FALSE NEIGHBOUR: 'it returns false'. Refute it at one input. -/
def fileWritesWrong : ChangeSpec := { name := "fileWrites", fn := fun _ => fun
  | [d1, d2, d3] => { results := [.lit (.bool false)], args := [d1, d2, d3] }
  | _ => none }
def FileWritesWrongFalsely : Prop := fileWritesRow.holds Tryz.pinned (OpenSpec.ofChange fileWritesWrong)

/-- 'understorylaw05.FileResizes': WHATEVER THE INPUT: true; the input reads as it did. -/
def fileResizesSpec : ChangeSpec := { name := "fileResizes", fn := fun _ => fun
  | [d1, d2] => { results := [.lit (.bool true)], args := [d1, d2] }
  | _ => none }
def fileResizesRow : OpenClaim := { program := "ytalaebjjleddaaagreat", sum := "24bcf096170c862be9d6790379d05fbcc4390b5a4e3d0dad2a85c9da2b09e166", func := "understory/understorylaw05.FileResizes", spec := "fileResizes", inPlace := ["internal/abi.NoEscape", "internal/bytealg.MakeNoZero"], unfollowed := true, recurses := true, apart := false }
def FileResizesSaid : Prop := fileResizesRow.holds Tryz.pinned (OpenSpec.ofChange fileResizesSpec)

/-- ITS FALSE NEIGHBOUR: 'it returns false'. Refute it at one input. -/
def fileResizesWrong : ChangeSpec := { name := "fileResizes", fn := fun _ => fun
  | [d1, d2] => { results := [.lit (.bool false)], args := [d1, d2] }
  | _ => none }
def FileResizesWrongFalsely : Prop := fileResizesRow.holds Tryz.pinned (OpenSpec.ofChange fileResizesWrong)

/-- 'understorylaw05.FileFaults': WHATEVER THE INPUT: true; the input reads as it did. -/
def fileFaultsSpec : ChangeSpec := { name := "fileFaults", fn := fun _ => fun
  | [d1, d2] => { results := [.lit (.bool true)], args := [d1, d2] }
  | _ => none }
def fileFaultsRow : OpenClaim := { program := "ytalaebjjleddaaagreat", sum := "24bcf096170c862be9d6790379d05fbcc4390b5a4e3d0dad2a85c9da2b09e166", func := "understory/understorylaw05.FileFaults", spec := "fileFaults", inPlace := ["internal/abi.NoEscape", "internal/bytealg.MakeNoZero", "slices.overlaps[int]"], unfollowed := true, recurses := true, apart := false }
def FileFaultsSaid : Prop := fileFaultsRow.holds Tryz.pinned (OpenSpec.ofChange fileFaultsSpec)

/-- ITS FALSE NEIGHBOUR: 'it returns false'. Refute it at one input. -/
def fileFaultsWrong : ChangeSpec := { name := "fileFaults", fn := fun _ => fun
  | [d1, d2] => { results := [.lit (.bool false)], args := [d1, d2] }
  | _ => none }
def FileFaultsWrongFalsely : Prop := fileFaultsRow.holds Tryz.pinned (OpenSpec.ofChange fileFaultsWrong)

/-- 'understorylaw05.FileInRow': WHATEVER THE INPUT: true; the input reads as it did. -/
def fileInRowSpec : ChangeSpec := { name := "fileInRow", fn := fun _ => fun
  | [d1, d2, d3, d4, d5, d6, d7] => { results := [.lit (.bool true)], args := [d1, d2, d3, d4, d5, d6, d7] }
  | _ => none }
def fileInRowRow : OpenClaim := { program := "ytalaebjjleddaaagreat", sum := "24bcf096170c862be9d6790379d05fbcc4390b5a4e3d0dad2a85c9da2b09e166", func := "understory/understorylaw05.FileInRow", spec := "fileInRow", inPlace := ["internal/abi.NoEscape", "internal/bytealg.MakeNoZero", "slices.overlaps[int]"], unfollowed := true, recurses := true, apart := false }
def FileInRowSaid : Prop := fileInRowRow.holds Tryz.pinned (OpenSpec.ofChange fileInRowSpec)

/-- ITS FALSE NEIGHBOUR: 'it returns false'. Refute it at one input. -/
def fileInRowWrong : ChangeSpec := { name := "fileInRow", fn := fun _ => fun
  | [d1, d2, d3, d4, d5, d6, d7] => { results := [.lit (.bool false)], args := [d1, d2, d3, d4, d5, d6, d7] }
  | _ => none }
def FileInRowWrongFalsely : Prop := fileInRowRow.holds Tryz.pinned (OpenSpec.ofChange fileInRowWrong)

/- THE SECOND FORM. 'bulk': how many values and letters a reading holds, each counted each time it is reached (what is shared counts as often as it is met; a slice's spare places count too). A statement '..UptoSaid' is the law's where the arguments, and the package variables that the reading takes, are together of bulk at most 1048576: NARROWER than '..Said'. Prove '..Said' where nothing that the law and all that it calls make is longer than what came in: it says more and counts as full. Else prove '..UptoSaid'. A law counts once. -/
mutual
def uptoBulk {H : Type} : DataW H → Nat
  | .lit (.string bytes) => bytes.length + 1
  | .lit _ => 1
  | .nil => 1
  | .ptr d => uptoBulk d + 1
  | .slice elems spare => uptoBulkAll elems + uptoBulkAll spare + 1
  | .agg parts => uptoBulkAll parts + 1
  | .iface _ d => uptoBulk d + 1
  | .map entries => uptoBulkEntries entries + 1
  | .held _ => 1
def uptoBulkAll {H : Type} : List (DataW H) → Nat
  | [] => 0
  | d :: r => uptoBulk d + uptoBulkAll r
def uptoBulkEntries {H : Type} : List (Lit × DataW H) → Nat
  | [] => 0
  | x :: r => uptoBulkEntry x + uptoBulkEntries r
def uptoBulkEntry {H : Type} : Lit × DataW H → Nat
  | (.string bytes, d) => bytes.length + uptoBulk d + 1
  | (_, d) => uptoBulk d + 1
 end
def uptoSmall : (H : Type) → List (DataW H) → Bool := fun _ ds => decide (uptoBulkAll ds ≤ 1048576)
def OpenSpec.upto (s : _root_.Go.ChangeSpec) : _root_.Go.OpenSpec := { _root_.Go.OpenSpec.ofChange s with cond := some uptoSmall }

/-- 'understorylaw05.FileRecords', WHERE WHAT IT READS IS OF BULK AT MOST 1048576: true; the input reads as it did. -/
def fileRecordsUptoRow : OpenClaim := { program := "ytalaebjjleddaaagreat", sum := "24bcf096170c862be9d6790379d05fbcc4390b5a4e3d0dad2a85c9da2b09e166", func := "understory/understorylaw05.FileRecords", spec := "fileRecords", inPlace := ["internal/abi.NoEscape", "internal/bytealg.MakeNoZero"], unfollowed := true, recurses := true, apart := false, narrowed := true }
def FileRecordsUptoSaid : Prop := fileRecordsUptoRow.holds Tryz.pinned (OpenSpec.upto fileRecordsSpec)

/-- 'understorylaw05.FileSteps', WHERE WHAT IT READS IS OF BULK AT MOST 1048576: true; the input reads as it did. -/
def fileStepsUptoRow : OpenClaim := { program := "ytalaebjjleddaaagreat", sum := "24bcf096170c862be9d6790379d05fbcc4390b5a4e3d0dad2a85c9da2b09e166", func := "understory/understorylaw05.FileSteps", spec := "fileSteps", inPlace := ["internal/abi.NoEscape", "internal/bytealg.MakeNoZero"], unfollowed := true, recurses := true, apart := false, narrowed := true }
def FileStepsUptoSaid : Prop := fileStepsUptoRow.holds Tryz.pinned (OpenSpec.upto fileStepsSpec)

/-- 'understorylaw05.FileBack', WHERE WHAT IT READS IS OF BULK AT MOST 1048576: true; the input reads as it did. -/
def fileBackUptoRow : OpenClaim := { program := "ytalaebjjleddaaagreat", sum := "24bcf096170c862be9d6790379d05fbcc4390b5a4e3d0dad2a85c9da2b09e166", func := "understory/understorylaw05.FileBack", spec := "fileBack", inPlace := ["internal/abi.NoEscape", "internal/bytealg.MakeNoZero"], unfollowed := true, recurses := true, apart := false, narrowed := true }
def FileBackUptoSaid : Prop := fileBackUptoRow.holds Tryz.pinned (OpenSpec.upto fileBackSpec)

/-- 'understorylaw05.FileAtomic', WHERE WHAT IT READS IS OF BULK AT MOST 1048576: true; the input reads as it did. -/
def fileAtomicUptoRow : OpenClaim := { program := "ytalaebjjleddaaagreat", sum := "24bcf096170c862be9d6790379d05fbcc4390b5a4e3d0dad2a85c9da2b09e166", func := "understory/understorylaw05.FileAtomic", spec := "fileAtomic", inPlace := ["internal/abi.NoEscape", "internal/bytealg.MakeNoZero"], unfollowed := true, recurses := true, apart := false, narrowed := true }
def FileAtomicUptoSaid : Prop := fileAtomicUptoRow.holds Tryz.pinned (OpenSpec.upto fileAtomicSpec)

/-- 'understorylaw05.FileLoads', WHERE WHAT IT READS IS OF BULK AT MOST 1048576: true; the input reads as it did. -/
def fileLoadsUptoRow : OpenClaim := { program := "ytalaebjjleddaaagreat", sum := "24bcf096170c862be9d6790379d05fbcc4390b5a4e3d0dad2a85c9da2b09e166", func := "understory/understorylaw05.FileLoads", spec := "fileLoads", inPlace := ["internal/abi.NoEscape", "internal/bytealg.MakeNoZero"], unfollowed := true, recurses := true, apart := false, narrowed := true }
def FileLoadsUptoSaid : Prop := fileLoadsUptoRow.holds Tryz.pinned (OpenSpec.upto fileLoadsSpec)

/-- 'understorylaw05.FileReads', WHERE WHAT IT READS IS OF BULK AT MOST 1048576: true; the input reads as it did. -/
def fileReadsUptoRow : OpenClaim := { program := "ytalaebjjleddaaagreat", sum := "24bcf096170c862be9d6790379d05fbcc4390b5a4e3d0dad2a85c9da2b09e166", func := "understory/understorylaw05.FileReads", spec := "fileReads", inPlace := ["internal/abi.NoEscape", "internal/bytealg.MakeNoZero"], unfollowed := true, recurses := true, apart := false, narrowed := true }
def FileReadsUptoSaid : Prop := fileReadsUptoRow.holds Tryz.pinned (OpenSpec.upto fileReadsSpec)

/-- 'understorylaw05.FilePages', WHERE WHAT IT READS IS OF BULK AT MOST 1048576: true; the input reads as it did. -/
def filePagesUptoRow : OpenClaim := { program := "ytalaebjjleddaaagreat", sum := "24bcf096170c862be9d6790379d05fbcc4390b5a4e3d0dad2a85c9da2b09e166", func := "understory/understorylaw05.FilePages", spec := "filePages", inPlace := ["internal/abi.NoEscape", "internal/bytealg.MakeNoZero"], unfollowed := true, recurses := true, apart := false, narrowed := true }
def FilePagesUptoSaid : Prop := filePagesUptoRow.holds Tryz.pinned (OpenSpec.upto filePagesSpec)

/-- 'understorylaw05.FileWrites', WHERE WHAT IT READS IS OF BULK AT MOST 1048576: true; the input reads as it did. -/
def fileWritesUptoRow : OpenClaim := { program := "ytalaebjjleddaaagreat", sum := "24bcf096170c862be9d6790379d05fbcc4390b5a4e3d0dad2a85c9da2b09e166", func := "understory/understorylaw05.FileWrites", spec := "fileWrites", inPlace := ["internal/abi.NoEscape", "internal/bytealg.MakeNoZero"], unfollowed := true, recurses := true, apart := false, narrowed := true }
def FileWritesUptoSaid : Prop := fileWritesUptoRow.holds Tryz.pinned (OpenSpec.upto fileWritesSpec)

/-- 'understorylaw05.FileResizes', WHERE WHAT IT READS IS OF BULK AT MOST 1048576: true; the input reads as it did. -/
def fileResizesUptoRow : OpenClaim := { program := "ytalaebjjleddaaagreat", sum := "24bcf096170c862be9d6790379d05fbcc4390b5a4e3d0dad2a85c9da2b09e166", func := "understory/understorylaw05.FileResizes", spec := "fileResizes", inPlace := ["internal/abi.NoEscape", "internal/bytealg.MakeNoZero"], unfollowed := true, recurses := true, apart := false, narrowed := true }
def FileResizesUptoSaid : Prop := fileResizesUptoRow.holds Tryz.pinned (OpenSpec.upto fileResizesSpec)

/-- 'understorylaw05.FileFaults', WHERE WHAT IT READS IS OF BULK AT MOST 1048576: true; the input reads as it did. -/
def fileFaultsUptoRow : OpenClaim := { program := "ytalaebjjleddaaagreat", sum := "24bcf096170c862be9d6790379d05fbcc4390b5a4e3d0dad2a85c9da2b09e166", func := "understory/understorylaw05.FileFaults", spec := "fileFaults", inPlace := ["internal/abi.NoEscape", "internal/bytealg.MakeNoZero", "slices.overlaps[int]"], unfollowed := true, recurses := true, apart := false, narrowed := true }
def FileFaultsUptoSaid : Prop := fileFaultsUptoRow.holds Tryz.pinned (OpenSpec.upto fileFaultsSpec)

/-- 'understorylaw05.FileInRow', WHERE WHAT IT READS IS OF BULK AT MOST 1048576: true; the input reads as it did. -/
def fileInRowUptoRow : OpenClaim := { program := "ytalaebjjleddaaagreat", sum := "24bcf096170c862be9d6790379d05fbcc4390b5a4e3d0dad2a85c9da2b09e166", func := "understory/understorylaw05.FileInRow", spec := "fileInRow", inPlace := ["internal/abi.NoEscape", "internal/bytealg.MakeNoZero", "slices.overlaps[int]"], unfollowed := true, recurses := true, apart := false, narrowed := true }
def FileInRowUptoSaid : Prop := fileInRowUptoRow.holds Tryz.pinned (OpenSpec.upto fileInRowSpec)

end Rows
end Go.Proofs.YtalaebjjleddaaaGreat
