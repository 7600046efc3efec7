/-
  No cell of these rows narrows 'for every input' (looked for: loops, veiled, ifaces, maps, wideKeys, modest, calm, conditions, laid).
  DERIVED. THE GIVEN ROWS OF THIS SEAT. 6 by the template 'for every input the law returns true; each argument reads behind the call as it read before'; 0 by the template 'total and deterministic' (their statements: YtilanncobbdlfaaTotals.lean).
  GIVEN WITH THE SEED: the statements are not yours to turn. If you find one false, say at which input.
  Laid BY PROGRAM, IN A SANDBOX (cutbox-rows.mjs): the forced cells as the released guide's own fill.sh prints them over the translation 8529545b6b9e4e4c… (all of the seat's roots in one cut). By AI agents, Wed Nov 11 2026. No macro, syntax, notation, axiom, sorry.
-/
import Derived.Test.YtilanncobbdlfaaChecked
import GoSem.Claim
import GoSem.ClaimJoined
import GoSem.ClaimMapViews
import Derived.JoinedTies
import Derived.KernelRfl
namespace Go.Proofs.Ytilanncobbdlfaa
/- THE CELL 'sum', in the pinned program and in every row, IS THE sha256 OF THE DUMP (.gsa) THAT YtilanncobbdlfaaProg.lean LOADS. Nothing in Lean hashes anything: it is a label: what it is worth is what the hold of that sum in a sandbox is worth. -/
noncomputable def Try.pinned : Pinned := { name := "ytilanncobbdlfaa", sum := "8529545b6b9e4e4ca7b60a186dc41a277435312c826bfad69a210b6c98374c3c", checked := Try.checked }
namespace Rows
def none {H : Type} : Left H := { results := [], args := [] }

/-- 'lintellaw18.SiglistMerges': WHATEVER THE INPUT: true; the input reads as it did. -/
def siglistMergesSpec : ChangeSpec := { name := "siglistMerges", fn := fun _ => fun
  | [d1, d2] => { results := [.lit (.bool true)], args := [d1, d2] }
  | _ => none }
def siglistMergesRow : OpenClaim := { program := "ytilanncobbdlfaa", sum := "8529545b6b9e4e4ca7b60a186dc41a277435312c826bfad69a210b6c98374c3c", func := "lintel/lintellaw18.SiglistMerges", spec := "siglistMerges", unfollowed := true, recurses := true, plainKeys := false, apart := false }
def SiglistMergesSaid : Prop := siglistMergesRow.holds Try.pinned (OpenSpec.ofChange siglistMergesSpec)

/-- ITS FALSE NEIGHBOUR: 'it returns false'. Refute it at one input. -/
def siglistMergesWrong : ChangeSpec := { name := "siglistMerges", fn := fun _ => fun
  | [d1, d2] => { results := [.lit (.bool false)], args := [d1, d2] }
  | _ => none }
def SiglistMergesWrongFalsely : Prop := siglistMergesRow.holds Try.pinned (OpenSpec.ofChange siglistMergesWrong)

/-- 'lintellaw18.SiglistBack': WHATEVER THE INPUT: true; the input reads as it did. -/
def siglistBackSpec : ChangeSpec := { name := "siglistBack", fn := fun _ => fun
  | [d1, d2, d3] => { results := [.lit (.bool true)], args := [d1, d2, d3] }
  | _ => none }
def siglistBackRow : OpenClaim := { program := "ytilanncobbdlfaa", sum := "8529545b6b9e4e4ca7b60a186dc41a277435312c826bfad69a210b6c98374c3c", func := "lintel/lintellaw18.SiglistBack", spec := "siglistBack", unfollowed := true, recurses := true, plainKeys := false, apart := false }
def SiglistBackSaid : Prop := siglistBackRow.holds Try.pinned (OpenSpec.ofChange siglistBackSpec)

/-- ITS FALSE NEIGHBOUR: 'it returns false'. Refute it at one input. -/
def siglistBackWrong : ChangeSpec := { name := "siglistBack", fn := fun _ => fun
  | [d1, d2, d3] => { results := [.lit (.bool false)], args := [d1, d2, d3] }
  | _ => none }
def SiglistBackWrongFalsely : Prop := siglistBackRow.holds Try.pinned (OpenSpec.ofChange siglistBackWrong)

/-- 'lintellaw18.SiglistReads': WHATEVER THE INPUT: true; the input reads as it did. -/
def siglistReadsSpec : ChangeSpec := { name := "siglistReads", fn := fun _ => fun
  | [d1, d2, d3] => { results := [.lit (.bool true)], args := [d1, d2, d3] }
  | _ => none }
def siglistReadsRow : OpenClaim := { program := "ytilanncobbdlfaa", sum := "8529545b6b9e4e4ca7b60a186dc41a277435312c826bfad69a210b6c98374c3c", func := "lintel/lintellaw18.SiglistReads", spec := "siglistReads", unfollowed := true, recurses := true, plainKeys := false, apart := false }
def SiglistReadsSaid : Prop := siglistReadsRow.holds Try.pinned (OpenSpec.ofChange siglistReadsSpec)

/-- ITS FALSE NEIGHBOUR: 'it returns false'. Refute it at one input. -/
def siglistReadsWrong : ChangeSpec := { name := "siglistReads", fn := fun _ => fun
  | [d1, d2, d3] => { results := [.lit (.bool false)], args := [d1, d2, d3] }
  | _ => none }
def SiglistReadsWrongFalsely : Prop := siglistReadsRow.holds Try.pinned (OpenSpec.ofChange siglistReadsWrong)

/-- 'lintellaw18.SiglistWrites': WHATEVER THE INPUT: true; the input reads as it did. -/
def siglistWritesSpec : ChangeSpec := { name := "siglistWrites", fn := fun _ => fun
  | [d] => { results := [.lit (.bool true)], args := [d] }
  | _ => none }
def siglistWritesRow : OpenClaim := { program := "ytilanncobbdlfaa", sum := "8529545b6b9e4e4ca7b60a186dc41a277435312c826bfad69a210b6c98374c3c", func := "lintel/lintellaw18.SiglistWrites", spec := "siglistWrites", unfollowed := true, recurses := true, plainKeys := false, apart := false }
def SiglistWritesSaid : Prop := siglistWritesRow.holds Try.pinned (OpenSpec.ofChange siglistWritesSpec)

/-- ITS FALSE NEIGHBOUR: 'it returns false'. Refute it at one input. -/
def siglistWritesWrong : ChangeSpec := { name := "siglistWrites", fn := fun _ => fun
  | [d] => { results := [.lit (.bool false)], args := [d] }
  | _ => none }
def SiglistWritesWrongFalsely : Prop := siglistWritesRow.holds Try.pinned (OpenSpec.ofChange siglistWritesWrong)

/-- 'lintellaw18.SiglistCuts': WHATEVER THE INPUT: true; the input reads as it did. -/
def siglistCutsSpec : ChangeSpec := { name := "siglistCuts", fn := fun _ => fun
  | [d1, d2, d3, d4] => { results := [.lit (.bool true)], args := [d1, d2, d3, d4] }
  | _ => none }
def siglistCutsRow : OpenClaim := { program := "ytilanncobbdlfaa", sum := "8529545b6b9e4e4ca7b60a186dc41a277435312c826bfad69a210b6c98374c3c", func := "lintel/lintellaw18.SiglistCuts", spec := "siglistCuts", unfollowed := true, recurses := true, plainKeys := false, apart := false }
def SiglistCutsSaid : Prop := siglistCutsRow.holds Try.pinned (OpenSpec.ofChange siglistCutsSpec)

/-- ITS FALSE NEIGHBOUR: 'it returns false'. Refute it at one input. -/
def siglistCutsWrong : ChangeSpec := { name := "siglistCuts", fn := fun _ => fun
  | [d1, d2, d3, d4] => { results := [.lit (.bool false)], args := [d1, d2, d3, d4] }
  | _ => none }
def SiglistCutsWrongFalsely : Prop := siglistCutsRow.holds Try.pinned (OpenSpec.ofChange siglistCutsWrong)

/-- 'lintellaw18.SiglistHas': WHATEVER THE INPUT: true; the input reads as it did. -/
def siglistHasSpec : ChangeSpec := { name := "siglistHas", fn := fun _ => fun
  | [d1, d2, d3] => { results := [.lit (.bool true)], args := [d1, d2, d3] }
  | _ => none }
def siglistHasRow : OpenClaim := { program := "ytilanncobbdlfaa", sum := "8529545b6b9e4e4ca7b60a186dc41a277435312c826bfad69a210b6c98374c3c", func := "lintel/lintellaw18.SiglistHas", spec := "siglistHas", unfollowed := true, recurses := true, plainKeys := false, apart := false }
def SiglistHasSaid : Prop := siglistHasRow.holds Try.pinned (OpenSpec.ofChange siglistHasSpec)

/-- ITS FALSE NEIGHBOUR: 'it returns false'. Refute it at one input. -/
def siglistHasWrong : ChangeSpec := { name := "siglistHas", fn := fun _ => fun
  | [d1, d2, d3] => { results := [.lit (.bool false)], args := [d1, d2, d3] }
  | _ => none }
def SiglistHasWrongFalsely : Prop := siglistHasRow.holds Try.pinned (OpenSpec.ofChange siglistHasWrong)

/- THE SECOND FORM. 'bulk': how many values and letters a reading holds, each counted each time it is reached (what is shared counts as often as it is met; a slice's spare places count too). A statement '..UptoSaid' is the law's where the arguments, and the package variables that the reading takes, are together of bulk at most 1048576: NARROWER than '..Said'. Prove '..Said' where nothing that the law and all that it calls make is longer than what came in: it says more and counts as full. Else prove '..UptoSaid'. A law counts once. -/
mutual
def uptoBulk {H : Type} : DataW H → Nat
  | .lit (.string bytes) => bytes.length + 1
  | .lit _ => 1
  | .nil => 1
  | .ptr d => uptoBulk d + 1
  | .slice elems spare => uptoBulkAll elems + uptoBulkAll spare + 1
  | .agg parts => uptoBulkAll parts + 1
  | .iface _ d => uptoBulk d + 1
  | .map entries => uptoBulkEntries entries + 1
  | .held _ => 1
def uptoBulkAll {H : Type} : List (DataW H) → Nat
  | [] => 0
  | d :: r => uptoBulk d + uptoBulkAll r
def uptoBulkEntries {H : Type} : List (Lit × DataW H) → Nat
  | [] => 0
  | x :: r => uptoBulkEntry x + uptoBulkEntries r
def uptoBulkEntry {H : Type} : Lit × DataW H → Nat
  | (.string bytes, d) => bytes.length + uptoBulk d + 1
  | (_, d) => uptoBulk d + 1
 end
def uptoSmall : (H : Type) → List (DataW H) → Bool := fun _ ds => decide (uptoBulkAll ds ≤ 1048576)
def OpenSpec.upto (s : _root_.Go.ChangeSpec) : _root_.Go.OpenSpec := { _root_.Go.OpenSpec.ofChange s with cond := some uptoSmall }

/-- 'lintellaw18.SiglistMerges', WHERE WHAT IT READS IS OF BULK AT MOST 1048576: true; the input reads as it did. -/
def siglistMergesUptoRow : OpenClaim := { program := "ytilanncobbdlfaa", sum := "8529545b6b9e4e4ca7b60a186dc41a277435312c826bfad69a210b6c98374c3c", func := "lintel/lintellaw18.SiglistMerges", spec := "siglistMerges", unfollowed := true, recurses := true, plainKeys := false, apart := false, narrowed := true }
def SiglistMergesUptoSaid : Prop := siglistMergesUptoRow.holds Try.pinned (OpenSpec.upto siglistMergesSpec)

/-- 'lintellaw18.SiglistBack', WHERE WHAT IT READS IS OF BULK AT MOST 1048576: true; the input reads as it did. -/
def siglistBackUptoRow : OpenClaim := { program := "ytilanncobbdlfaa", sum := "8529545b6b9e4e4ca7b60a186dc41a277435312c826bfad69a210b6c98374c3c", func := "lintel/lintellaw18.SiglistBack", spec := "siglistBack", unfollowed := true, recurses := true, plainKeys := false, apart := false, narrowed := true }
def SiglistBackUptoSaid : Prop := siglistBackUptoRow.holds Try.pinned (OpenSpec.upto siglistBackSpec)

/-- 'lintellaw18.SiglistReads', WHERE WHAT IT READS IS OF BULK AT MOST 1048576: true; the input reads as it did. -/
def siglistReadsUptoRow : OpenClaim := { program := "ytilanncobbdlfaa", sum := "8529545b6b9e4e4ca7b60a186dc41a277435312c826bfad69a210b6c98374c3c", func := "lintel/lintellaw18.SiglistReads", spec := "siglistReads", unfollowed := true, recurses := true, plainKeys := false, apart := false, narrowed := true }
def SiglistReadsUptoSaid : Prop := siglistReadsUptoRow.holds Try.pinned (OpenSpec.upto siglistReadsSpec)

/-- 'lintellaw18.SiglistWrites', WHERE WHAT IT READS IS OF BULK AT MOST 1048576: true; the input reads as it did. -/
def siglistWritesUptoRow : OpenClaim := { program := "ytilanncobbdlfaa", sum := "8529545b6b9e4e4ca7b60a186dc41a277435312c826bfad69a210b6c98374c3c", func := "lintel/lintellaw18.SiglistWrites", spec := "siglistWrites", unfollowed := true, recurses := true, plainKeys := false, apart := false, narrowed := true }
def SiglistWritesUptoSaid : Prop := siglistWritesUptoRow.holds Try.pinned (OpenSpec.upto siglistWritesSpec)

/-- 'lintellaw18.SiglistCuts', WHERE WHAT IT READS IS OF BULK AT MOST 1048576: true; the input reads as it did. -/
def siglistCutsUptoRow : OpenClaim := { program := "ytilanncobbdlfaa", sum := "8529545b6b9e4e4ca7b60a186dc41a277435312c826bfad69a210b6c98374c3c", func := "lintel/lintellaw18.SiglistCuts", spec := "siglistCuts", unfollowed := true, recurses := true, plainKeys := false, apart := false, narrowed := true }
def SiglistCutsUptoSaid : Prop := siglistCutsUptoRow.holds Try.pinned (OpenSpec.upto siglistCutsSpec)

/-- 'lintellaw18.SiglistHas', WHERE WHAT IT READS IS OF BULK AT MOST 1048576: true; the input reads as it did. -/
def siglistHasUptoRow : OpenClaim := { program := "ytilanncobbdlfaa", sum := "8529545b6b9e4e4ca7b60a186dc41a277435312c826bfad69a210b6c98374c3c", func := "lintel/lintellaw18.SiglistHas", spec := "siglistHas", unfollowed := true, recurses := true, plainKeys := false, apart := false, narrowed := true }
def SiglistHasUptoSaid : Prop := siglistHasUptoRow.holds Try.pinned (OpenSpec.upto siglistHasSpec)

end Rows
end Go.Proofs.Ytilanncobbdlfaa
