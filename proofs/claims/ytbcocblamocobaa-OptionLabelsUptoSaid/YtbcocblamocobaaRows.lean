/-
  No cell of these rows narrows 'for every input' (looked for: loops, veiled, ifaces, maps, wideKeys, modest, calm, conditions, laid).
  DERIVED. THE GIVEN ROWS OF THIS SEAT. 6 by the template 'for every input the law returns true; each argument reads behind the call as it read before'; 0 by the template 'total and deterministic' (their statements: YtbcocblamocobaaTotals.lean).
  GIVEN WITH THE SEED: the statements are not yours to turn. If you find one false, say at which input.
  Laid BY PROGRAM, IN A SANDBOX (cutbox-rows.mjs): the forced cells as the released guide's own fill.sh prints them over the translation 8d1a5679bee662d7… (all of the seat's roots in one cut). By AI agents, Wed Nov 11 2026. No macro, syntax, notation, axiom, sorry.
-/
import Derived.Test.YtbcocblamocobaaChecked
import GoSem.Claim
import GoSem.ClaimJoined
import GoSem.ClaimMapViews
import Derived.JoinedTies
import Derived.KernelRfl
namespace Go.Proofs.Ytbcocblamocobaa
/- THE CELL 'sum', in the pinned program and in every row, IS THE sha256 OF THE DUMP (.gsa) THAT YtbcocblamocobaaProg.lean LOADS. Nothing in Lean hashes anything: it is a label: what it is worth is what the hold of that sum in a sandbox is worth. -/
noncomputable def Try.pinned : Pinned := { name := "ytbcocblamocobaa", sum := "8d1a5679bee662d781c9e96c98df2ae522adb80b66b15bf2f5b50cd2f7231612", checked := Try.checked }
namespace Rows
def none {H : Type} : Left H := { results := [], args := [] }

/-- 'lintellaw25.OptionWrites': WHATEVER THE INPUT: true; the input reads as it did. -/
def optionWritesSpec : ChangeSpec := { name := "optionWrites", fn := fun _ => fun
  | [d] => { results := [.lit (.bool true)], args := [d] }
  | _ => none }
def optionWritesRow : OpenClaim := { program := "ytbcocblamocobaa", sum := "8d1a5679bee662d781c9e96c98df2ae522adb80b66b15bf2f5b50cd2f7231612", func := "lintel/lintellaw25.OptionWrites", spec := "optionWrites", unfollowed := true, recurses := true, apart := false }
def OptionWritesSaid : Prop := optionWritesRow.holds Try.pinned (OpenSpec.ofChange optionWritesSpec)

/-- ITS FALSE NEIGHBOUR: 'it returns false'. Refute it at one input. -/
def optionWritesWrong : ChangeSpec := { name := "optionWrites", fn := fun _ => fun
  | [d] => { results := [.lit (.bool false)], args := [d] }
  | _ => none }
def OptionWritesWrongFalsely : Prop := optionWritesRow.holds Try.pinned (OpenSpec.ofChange optionWritesWrong)

/-- 'lintellaw25.OptionReads': WHATEVER THE INPUT: true; the input reads as it did. -/
def optionReadsSpec : ChangeSpec := { name := "optionReads", fn := fun _ => fun
  | [d] => { results := [.lit (.bool true)], args := [d] }
  | _ => none }
def optionReadsRow : OpenClaim := { program := "ytbcocblamocobaa", sum := "8d1a5679bee662d781c9e96c98df2ae522adb80b66b15bf2f5b50cd2f7231612", func := "lintel/lintellaw25.OptionReads", spec := "optionReads", unfollowed := true, recurses := true, apart := false }
def OptionReadsSaid : Prop := optionReadsRow.holds Try.pinned (OpenSpec.ofChange optionReadsSpec)

/-- ITS FALSE NEIGHBOUR: 'it returns false'. Refute it at one input. -/
def optionReadsWrong : ChangeSpec := { name := "optionReads", fn := fun _ => fun
  | [d] => { results := [.lit (.bool false)], args := [d] }
  | _ => none }
def OptionReadsWrongFalsely : Prop := optionReadsRow.holds Try.pinned (OpenSpec.ofChange optionReadsWrong)

/-- 'lintellaw25.OptionBack': WHATEVER THE INPUT: true; the input reads as it did. -/
def optionBackSpec : ChangeSpec := { name := "optionBack", fn := fun _ => fun
  | [d1, d2, d3] => { results := [.lit (.bool true)], args := [d1, d2, d3] }
  | _ => none }
def optionBackRow : OpenClaim := { program := "ytbcocblamocobaa", sum := "8d1a5679bee662d781c9e96c98df2ae522adb80b66b15bf2f5b50cd2f7231612", func := "lintel/lintellaw25.OptionBack", spec := "optionBack", unfollowed := true, recurses := true, apart := false }
def OptionBackSaid : Prop := optionBackRow.holds Try.pinned (OpenSpec.ofChange optionBackSpec)

/-- ITS FALSE NEIGHBOUR: 'it returns false'. Refute it at one input. -/
def optionBackWrong : ChangeSpec := { name := "optionBack", fn := fun _ => fun
  | [d1, d2, d3] => { results := [.lit (.bool false)], args := [d1, d2, d3] }
  | _ => none }
def OptionBackWrongFalsely : Prop := optionBackRow.holds Try.pinned (OpenSpec.ofChange optionBackWrong)

/-- 'lintellaw25.OptionMore': WHATEVER THE INPUT: true; the input reads as it did. -/
def optionMoreSpec : ChangeSpec := { name := "optionMore", fn := fun _ => fun
  | [d1, d2] => { results := [.lit (.bool true)], args := [d1, d2] }
  | _ => none }
def optionMoreRow : OpenClaim := { program := "ytbcocblamocobaa", sum := "8d1a5679bee662d781c9e96c98df2ae522adb80b66b15bf2f5b50cd2f7231612", func := "lintel/lintellaw25.OptionMore", spec := "optionMore", unfollowed := true, recurses := true, apart := false }
def OptionMoreSaid : Prop := optionMoreRow.holds Try.pinned (OpenSpec.ofChange optionMoreSpec)

/-- ITS FALSE NEIGHBOUR: 'it returns false'. Refute it at one input. -/
def optionMoreWrong : ChangeSpec := { name := "optionMore", fn := fun _ => fun
  | [d1, d2] => { results := [.lit (.bool false)], args := [d1, d2] }
  | _ => none }
def OptionMoreWrongFalsely : Prop := optionMoreRow.holds Try.pinned (OpenSpec.ofChange optionMoreWrong)

/-- 'lintellaw25.OptionSizes': WHATEVER THE INPUT: true; the input reads as it did. -/
def optionSizesSpec : ChangeSpec := { name := "optionSizes", fn := fun _ => fun
  | [d] => { results := [.lit (.bool true)], args := [d] }
  | _ => none }
def optionSizesRow : OpenClaim := { program := "ytbcocblamocobaa", sum := "8d1a5679bee662d781c9e96c98df2ae522adb80b66b15bf2f5b50cd2f7231612", func := "lintel/lintellaw25.OptionSizes", spec := "optionSizes", unfollowed := true, recurses := true, apart := false }
def OptionSizesSaid : Prop := optionSizesRow.holds Try.pinned (OpenSpec.ofChange optionSizesSpec)

/-- ITS FALSE NEIGHBOUR: 'it returns false'. Refute it at one input. -/
def optionSizesWrong : ChangeSpec := { name := "optionSizes", fn := fun _ => fun
  | [d] => { results := [.lit (.bool false)], args := [d] }
  | _ => none }
def OptionSizesWrongFalsely : Prop := optionSizesRow.holds Try.pinned (OpenSpec.ofChange optionSizesWrong)

/-- 'lintellaw25.OptionLabels': WHATEVER THE INPUT: true; the input reads as it did. -/
def optionLabelsSpec : ChangeSpec := { name := "optionLabels", fn := fun _ => fun
  | [d] => { results := [.lit (.bool true)], args := [d] }
  | _ => none }
def optionLabelsRow : OpenClaim := { program := "ytbcocblamocobaa", sum := "8d1a5679bee662d781c9e96c98df2ae522adb80b66b15bf2f5b50cd2f7231612", func := "lintel/lintellaw25.OptionLabels", spec := "optionLabels", unfollowed := true, recurses := true, apart := false }
def OptionLabelsSaid : Prop := optionLabelsRow.holds Try.pinned (OpenSpec.ofChange optionLabelsSpec)

/-- ITS FALSE NEIGHBOUR: 'it returns false'. Refute it at one input. -/
def optionLabelsWrong : ChangeSpec := { name := "optionLabels", fn := fun _ => fun
  | [d] => { results := [.lit (.bool false)], args := [d] }
  | _ => none }
def OptionLabelsWrongFalsely : Prop := optionLabelsRow.holds Try.pinned (OpenSpec.ofChange optionLabelsWrong)

/- THE SECOND FORM. 'bulk': how many values and letters a reading holds, each counted each time it is reached (what is shared counts as often as it is met; a slice's spare places count too). A statement '..UptoSaid' is the law's where the arguments, and the package variables that the reading takes, are together of bulk at most 1048576: NARROWER than '..Said'. Prove '..Said' where nothing that the law and all that it calls make is longer than what came in: it says more and counts as full. Else prove '..UptoSaid'. A law counts once. -/
mutual
def uptoBulk {H : Type} : DataW H → Nat
  | .lit (.string bytes) => bytes.length + 1
  | .lit _ => 1
  | .nil => 1
  | .ptr d => uptoBulk d + 1
  | .slice elems spare => uptoBulkAll elems + uptoBulkAll spare + 1
  | .agg parts => uptoBulkAll parts + 1
  | .iface _ d => uptoBulk d + 1
  | .map entries => uptoBulkEntries entries + 1
  | .held _ => 1
def uptoBulkAll {H : Type} : List (DataW H) → Nat
  | [] => 0
  | d :: r => uptoBulk d + uptoBulkAll r
def uptoBulkEntries {H : Type} : List (Lit × DataW H) → Nat
  | [] => 0
  | x :: r => uptoBulkEntry x + uptoBulkEntries r
def uptoBulkEntry {H : Type} : Lit × DataW H → Nat
  | (.string bytes, d) => bytes.length + uptoBulk d + 1
  | (_, d) => uptoBulk d + 1
 end
def uptoSmall : (H : Type) → List (DataW H) → Bool := fun _ ds => decide (uptoBulkAll ds ≤ 1048576)
def OpenSpec.upto (s : _root_.Go.ChangeSpec) : _root_.Go.OpenSpec := { _root_.Go.OpenSpec.ofChange s with cond := some uptoSmall }

/-- 'lintellaw25.OptionWrites', WHERE WHAT IT READS IS OF BULK AT MOST 1048576: true; the input reads as it did. -/
def optionWritesUptoRow : OpenClaim := { program := "ytbcocblamocobaa", sum := "8d1a5679bee662d781c9e96c98df2ae522adb80b66b15bf2f5b50cd2f7231612", func := "lintel/lintellaw25.OptionWrites", spec := "optionWrites", unfollowed := true, recurses := true, apart := false, narrowed := true }
def OptionWritesUptoSaid : Prop := optionWritesUptoRow.holds Try.pinned (OpenSpec.upto optionWritesSpec)

/-- 'lintellaw25.OptionReads', WHERE WHAT IT READS IS OF BULK AT MOST 1048576: true; the input reads as it did. -/
def optionReadsUptoRow : OpenClaim := { program := "ytbcocblamocobaa", sum := "8d1a5679bee662d781c9e96c98df2ae522adb80b66b15bf2f5b50cd2f7231612", func := "lintel/lintellaw25.OptionReads", spec := "optionReads", unfollowed := true, recurses := true, apart := false, narrowed := true }
def OptionReadsUptoSaid : Prop := optionReadsUptoRow.holds Try.pinned (OpenSpec.upto optionReadsSpec)

/-- 'lintellaw25.OptionBack', WHERE WHAT IT READS IS OF BULK AT MOST 1048576: true; the input reads as it did. -/
def optionBackUptoRow : OpenClaim := { program := "ytbcocblamocobaa", sum := "8d1a5679bee662d781c9e96c98df2ae522adb80b66b15bf2f5b50cd2f7231612", func := "lintel/lintellaw25.OptionBack", spec := "optionBack", unfollowed := true, recurses := true, apart := false, narrowed := true }
def OptionBackUptoSaid : Prop := optionBackUptoRow.holds Try.pinned (OpenSpec.upto optionBackSpec)

/-- 'lintellaw25.OptionMore', WHERE WHAT IT READS IS OF BULK AT MOST 1048576: true; the input reads as it did. -/
def optionMoreUptoRow : OpenClaim := { program := "ytbcocblamocobaa", sum := "8d1a5679bee662d781c9e96c98df2ae522adb80b66b15bf2f5b50cd2f7231612", func := "lintel/lintellaw25.OptionMore", spec := "optionMore", unfollowed := true, recurses := true, apart := false, narrowed := true }
def OptionMoreUptoSaid : Prop := optionMoreUptoRow.holds Try.pinned (OpenSpec.upto optionMoreSpec)

/-- 'lintellaw25.OptionSizes', WHERE WHAT IT READS IS OF BULK AT MOST 1048576: true; the input reads as it did. -/
def optionSizesUptoRow : OpenClaim := { program := "ytbcocblamocobaa", sum := "8d1a5679bee662d781c9e96c98df2ae522adb80b66b15bf2f5b50cd2f7231612", func := "lintel/lintellaw25.OptionSizes", spec := "optionSizes", unfollowed := true, recurses := true, apart := false, narrowed := true }
def OptionSizesUptoSaid : Prop := optionSizesUptoRow.holds Try.pinned (OpenSpec.upto optionSizesSpec)

/-- 'lintellaw25.OptionLabels', WHERE WHAT IT READS IS OF BULK AT MOST 1048576: true; the input reads as it did. -/
def optionLabelsUptoRow : OpenClaim := { program := "ytbcocblamocobaa", sum := "8d1a5679bee662d781c9e96c98df2ae522adb80b66b15bf2f5b50cd2f7231612", func := "lintel/lintellaw25.OptionLabels", spec := "optionLabels", unfollowed := true, recurses := true, apart := false, narrowed := true }
def OptionLabelsUptoSaid : Prop := optionLabelsUptoRow.holds Try.pinned (OpenSpec.upto optionLabelsSpec)

end Rows
end Go.Proofs.Ytbcocblamocobaa
