/-
  No cell of these rows narrows 'for every input' (looked for: loops, veiled, ifaces, maps, wideKeys, modest, calm, conditions, laid).
  DERIVED. THE GIVEN ROWS OF THIS SEAT. 10 by the template 'for every input the law returns true; each argument reads behind the call as it read before'; 0 by the template 'total and deterministic' (their statements: YtjjggnipicpjkaaTotals.lean).
  GIVEN WITH THE SEED: the statements are not yours to turn. If you find one false, say at which input.
  Laid BY PROGRAM, IN A SANDBOX (cutbox-rows.mjs): the forced cells as the released guide's own fill.sh prints them over the translation 0f10ef0323f7cbce… (all of the seat's roots in one cut). By AI agents, Wed Nov 11 2026. No macro, syntax, notation, axiom, sorry.
-/
import Derived.Test.YtjjggnipicpjkaaChecked
import GoSem.Claim
import GoSem.ClaimJoined
import GoSem.ClaimMapViews
import Derived.JoinedTies
import Derived.KernelRfl
namespace Go.Proofs.Ytjjggnipicpjkaa
/- THE CELL 'sum', in the pinned program and in every row, IS THE sha256 OF THE DUMP (.gsa) THAT YtjjggnipicpjkaaProg.lean LOADS. Nothing in Lean hashes anything: it is a label: what it is worth is what the hold of that sum in a sandbox is worth. -/
noncomputable def Try.pinned : Pinned := { name := "ytjjggnipicpjkaa", sum := "0f10ef0323f7cbce840e01452e6843a20d41f7bb0c18641615534f5e4af5fb5c", checked := Try.checked }
namespace Rows
def none {H : Type} : Left H := { results := [], args := [] }

/-- 'lintellaw11.StampReads': WHATEVER THE INPUT: true; the input reads as it did. -/
def stampReadsSpec : ChangeSpec := { name := "stampReads", fn := fun _ => fun
  | [d1, d2] => { results := [.lit (.bool true)], args := [d1, d2] }
  | _ => none }
def stampReadsRow : OpenClaim := { program := "ytjjggnipicpjkaa", sum := "0f10ef0323f7cbce840e01452e6843a20d41f7bb0c18641615534f5e4af5fb5c", func := "lintel/lintellaw11.StampReads", spec := "stampReads", unfollowed := true, recurses := true, apart := false }
def StampReadsSaid : Prop := stampReadsRow.holds Try.pinned (OpenSpec.ofChange stampReadsSpec)

/-- ITS FALSE NEIGHBOUR: 'it returns false'. Refute it at one input. -/
def stampReadsWrong : ChangeSpec := { name := "stampReads", fn := fun _ => fun
  | [d1, d2] => { results := [.lit (.bool false)], args := [d1, d2] }
  | _ => none }
def StampReadsWrongFalsely : Prop := stampReadsRow.holds Try.pinned (OpenSpec.ofChange stampReadsWrong)

/-- 'lintellaw11.StampOrder': WHATEVER THE INPUT: true; the input reads as it did. -/
def stampOrderSpec : ChangeSpec := { name := "stampOrder", fn := fun _ => fun
  | [d1, d2, d3] => { results := [.lit (.bool true)], args := [d1, d2, d3] }
  | _ => none }
def stampOrderRow : OpenClaim := { program := "ytjjggnipicpjkaa", sum := "0f10ef0323f7cbce840e01452e6843a20d41f7bb0c18641615534f5e4af5fb5c", func := "lintel/lintellaw11.StampOrder", spec := "stampOrder", unfollowed := true, recurses := true, apart := false }
def StampOrderSaid : Prop := stampOrderRow.holds Try.pinned (OpenSpec.ofChange stampOrderSpec)

/-- ITS FALSE NEIGHBOUR: 'it returns false'. Refute it at one input. -/
def stampOrderWrong : ChangeSpec := { name := "stampOrder", fn := fun _ => fun
  | [d1, d2, d3] => { results := [.lit (.bool false)], args := [d1, d2, d3] }
  | _ => none }
def StampOrderWrongFalsely : Prop := stampOrderRow.holds Try.pinned (OpenSpec.ofChange stampOrderWrong)

/-- 'lintellaw11.StampYears': WHATEVER THE INPUT: true; the input reads as it did. -/
def stampYearsSpec : ChangeSpec := { name := "stampYears", fn := fun _ => fun
  | [d] => { results := [.lit (.bool true)], args := [d] }
  | _ => none }
def stampYearsRow : OpenClaim := { program := "ytjjggnipicpjkaa", sum := "0f10ef0323f7cbce840e01452e6843a20d41f7bb0c18641615534f5e4af5fb5c", func := "lintel/lintellaw11.StampYears", spec := "stampYears", unfollowed := true, recurses := true, apart := false }
def StampYearsSaid : Prop := stampYearsRow.holds Try.pinned (OpenSpec.ofChange stampYearsSpec)

/-- ITS FALSE NEIGHBOUR: 'it returns false'. Refute it at one input. -/
def stampYearsWrong : ChangeSpec := { name := "stampYears", fn := fun _ => fun
  | [d] => { results := [.lit (.bool false)], args := [d] }
  | _ => none }
def StampYearsWrongFalsely : Prop := stampYearsRow.holds Try.pinned (OpenSpec.ofChange stampYearsWrong)

/-- 'lintellaw11.StampHours': WHATEVER THE INPUT: true; the input reads as it did. -/
def stampHoursSpec : ChangeSpec := { name := "stampHours", fn := fun _ => fun
  | [d] => { results := [.lit (.bool true)], args := [d] }
  | _ => none }
def stampHoursRow : OpenClaim := { program := "ytjjggnipicpjkaa", sum := "0f10ef0323f7cbce840e01452e6843a20d41f7bb0c18641615534f5e4af5fb5c", func := "lintel/lintellaw11.StampHours", spec := "stampHours", unfollowed := true, recurses := true, apart := false }
def StampHoursSaid : Prop := stampHoursRow.holds Try.pinned (OpenSpec.ofChange stampHoursSpec)

/-- ITS FALSE NEIGHBOUR: 'it returns false'. Refute it at one input. -/
def stampHoursWrong : ChangeSpec := { name := "stampHours", fn := fun _ => fun
  | [d] => { results := [.lit (.bool false)], args := [d] }
  | _ => none }
def StampHoursWrongFalsely : Prop := stampHoursRow.holds Try.pinned (OpenSpec.ofChange stampHoursWrong)

/-- 'lintellaw11.StampAhead': WHATEVER THE INPUT: true; the input reads as it did. -/
def stampAheadSpec : ChangeSpec := { name := "stampAhead", fn := fun _ => fun
  | [d1, d2] => { results := [.lit (.bool true)], args := [d1, d2] }
  | _ => none }
def stampAheadRow : OpenClaim := { program := "ytjjggnipicpjkaa", sum := "0f10ef0323f7cbce840e01452e6843a20d41f7bb0c18641615534f5e4af5fb5c", func := "lintel/lintellaw11.StampAhead", spec := "stampAhead", unfollowed := true, recurses := true, apart := false }
def StampAheadSaid : Prop := stampAheadRow.holds Try.pinned (OpenSpec.ofChange stampAheadSpec)

/-- ITS FALSE NEIGHBOUR: 'it returns false'. Refute it at one input. -/
def stampAheadWrong : ChangeSpec := { name := "stampAhead", fn := fun _ => fun
  | [d1, d2] => { results := [.lit (.bool false)], args := [d1, d2] }
  | _ => none }
def StampAheadWrongFalsely : Prop := stampAheadRow.holds Try.pinned (OpenSpec.ofChange stampAheadWrong)

/-- 'lintellaw11.StampRest': WHATEVER THE INPUT: true; the input reads as it did. -/
def stampRestSpec : ChangeSpec := { name := "stampRest", fn := fun _ => fun
  | [d1, d2, d3] => { results := [.lit (.bool true)], args := [d1, d2, d3] }
  | _ => none }
def stampRestRow : OpenClaim := { program := "ytjjggnipicpjkaa", sum := "0f10ef0323f7cbce840e01452e6843a20d41f7bb0c18641615534f5e4af5fb5c", func := "lintel/lintellaw11.StampRest", spec := "stampRest", unfollowed := true, recurses := true, apart := false }
def StampRestSaid : Prop := stampRestRow.holds Try.pinned (OpenSpec.ofChange stampRestSpec)

/-- ITS FALSE NEIGHBOUR: 'it returns false'. Refute it at one input. -/
def stampRestWrong : ChangeSpec := { name := "stampRest", fn := fun _ => fun
  | [d1, d2, d3] => { results := [.lit (.bool false)], args := [d1, d2, d3] }
  | _ => none }
def StampRestWrongFalsely : Prop := stampRestRow.holds Try.pinned (OpenSpec.ofChange stampRestWrong)

/-- 'lintellaw11.StampTells': WHATEVER THE INPUT: true; the input reads as it did. -/
def stampTellsSpec : ChangeSpec := { name := "stampTells", fn := fun _ => fun
  | [d1, d2, d3] => { results := [.lit (.bool true)], args := [d1, d2, d3] }
  | _ => none }
def stampTellsRow : OpenClaim := { program := "ytjjggnipicpjkaa", sum := "0f10ef0323f7cbce840e01452e6843a20d41f7bb0c18641615534f5e4af5fb5c", func := "lintel/lintellaw11.StampTells", spec := "stampTells", unfollowed := true, recurses := true, apart := false }
def StampTellsSaid : Prop := stampTellsRow.holds Try.pinned (OpenSpec.ofChange stampTellsSpec)

/-- ITS FALSE NEIGHBOUR: 'it returns false'. Refute it at one input. -/
def stampTellsWrong : ChangeSpec := { name := "stampTells", fn := fun _ => fun
  | [d1, d2, d3] => { results := [.lit (.bool false)], args := [d1, d2, d3] }
  | _ => none }
def StampTellsWrongFalsely : Prop := stampTellsRow.holds Try.pinned (OpenSpec.ofChange stampTellsWrong)

/-- 'lintellaw11.StampBack': WHATEVER THE INPUT: true; the input reads as it did. -/
def stampBackSpec : ChangeSpec := { name := "stampBack", fn := fun _ => fun
  | [d1, d2] => { results := [.lit (.bool true)], args := [d1, d2] }
  | _ => none }
def stampBackRow : OpenClaim := { program := "ytjjggnipicpjkaa", sum := "0f10ef0323f7cbce840e01452e6843a20d41f7bb0c18641615534f5e4af5fb5c", func := "lintel/lintellaw11.StampBack", spec := "stampBack", unfollowed := true, recurses := true, apart := false }
def StampBackSaid : Prop := stampBackRow.holds Try.pinned (OpenSpec.ofChange stampBackSpec)

/-- ITS FALSE NEIGHBOUR: 'it returns false'. Refute it at one input. -/
def stampBackWrong : ChangeSpec := { name := "stampBack", fn := fun _ => fun
  | [d1, d2] => { results := [.lit (.bool false)], args := [d1, d2] }
  | _ => none }
def StampBackWrongFalsely : Prop := stampBackRow.holds Try.pinned (OpenSpec.ofChange stampBackWrong)

/-- 'lintellaw11.StampTexts': WHATEVER THE INPUT: true; the input reads as it did. -/
def stampTextsSpec : ChangeSpec := { name := "stampTexts", fn := fun _ => fun
  | [d] => { results := [.lit (.bool true)], args := [d] }
  | _ => none }
def stampTextsRow : OpenClaim := { program := "ytjjggnipicpjkaa", sum := "0f10ef0323f7cbce840e01452e6843a20d41f7bb0c18641615534f5e4af5fb5c", func := "lintel/lintellaw11.StampTexts", spec := "stampTexts", unfollowed := true, recurses := true, apart := false }
def StampTextsSaid : Prop := stampTextsRow.holds Try.pinned (OpenSpec.ofChange stampTextsSpec)

/-- ITS FALSE NEIGHBOUR: 'it returns false'. Refute it at one input. -/
def stampTextsWrong : ChangeSpec := { name := "stampTexts", fn := fun _ => fun
  | [d] => { results := [.lit (.bool false)], args := [d] }
  | _ => none }
def StampTextsWrongFalsely : Prop := stampTextsRow.holds Try.pinned (OpenSpec.ofChange stampTextsWrong)

/-- 'lintellaw11.StampCuts': WHATEVER THE INPUT: true; the input reads as it did. -/
def stampCutsSpec : ChangeSpec := { name := "stampCuts", fn := fun _ => fun
  | [d1, d2, d3] => { results := [.lit (.bool true)], args := [d1, d2, d3] }
  | _ => none }
def stampCutsRow : OpenClaim := { program := "ytjjggnipicpjkaa", sum := "0f10ef0323f7cbce840e01452e6843a20d41f7bb0c18641615534f5e4af5fb5c", func := "lintel/lintellaw11.StampCuts", spec := "stampCuts", unfollowed := true, recurses := true, apart := false }
def StampCutsSaid : Prop := stampCutsRow.holds Try.pinned (OpenSpec.ofChange stampCutsSpec)

/-- ITS FALSE NEIGHBOUR: 'it returns false'. Refute it at one input. -/
def stampCutsWrong : ChangeSpec := { name := "stampCuts", fn := fun _ => fun
  | [d1, d2, d3] => { results := [.lit (.bool false)], args := [d1, d2, d3] }
  | _ => none }
def StampCutsWrongFalsely : Prop := stampCutsRow.holds Try.pinned (OpenSpec.ofChange stampCutsWrong)

/- THE SECOND FORM. 'bulk': how many values and letters a reading holds, each counted each time it is reached (what is shared counts as often as it is met; a slice's spare places count too). A statement '..UptoSaid' is the law's where the arguments, and the package variables that the reading takes, are together of bulk at most 1048576: NARROWER than '..Said'. Prove '..Said' where nothing that the law and all that it calls make is longer than what came in: it says more and counts as full. Else prove '..UptoSaid'. A law counts once. -/
mutual
def uptoBulk {H : Type} : DataW H → Nat
  | .lit (.string bytes) => bytes.length + 1
  | .lit _ => 1
  | .nil => 1
  | .ptr d => uptoBulk d + 1
  | .slice elems spare => uptoBulkAll elems + uptoBulkAll spare + 1
  | .agg parts => uptoBulkAll parts + 1
  | .iface _ d => uptoBulk d + 1
  | .map entries => uptoBulkEntries entries + 1
  | .held _ => 1
def uptoBulkAll {H : Type} : List (DataW H) → Nat
  | [] => 0
  | d :: r => uptoBulk d + uptoBulkAll r
def uptoBulkEntries {H : Type} : List (Lit × DataW H) → Nat
  | [] => 0
  | x :: r => uptoBulkEntry x + uptoBulkEntries r
def uptoBulkEntry {H : Type} : Lit × DataW H → Nat
  | (.string bytes, d) => bytes.length + uptoBulk d + 1
  | (_, d) => uptoBulk d + 1
 end
def uptoSmall : (H : Type) → List (DataW H) → Bool := fun _ ds => decide (uptoBulkAll ds ≤ 1048576)
def OpenSpec.upto (s : _root_.Go.ChangeSpec) : _root_.Go.OpenSpec := { _root_.Go.OpenSpec.ofChange s with cond := some uptoSmall }

/-- 'lintellaw11.StampReads', WHERE WHAT IT READS IS OF BULK AT MOST 1048576: true; the input reads as it did. -/
def stampReadsUptoRow : OpenClaim := { program := "ytjjggnipicpjkaa", sum := "0f10ef0323f7cbce840e01452e6843a20d41f7bb0c18641615534f5e4af5fb5c", func := "lintel/lintellaw11.StampReads", spec := "stampReads", unfollowed := true, recurses := true, apart := false, narrowed := true }
def StampReadsUptoSaid : Prop := stampReadsUptoRow.holds Try.pinned (OpenSpec.upto stampReadsSpec)

/-- 'lintellaw11.StampOrder', WHERE WHAT IT READS IS OF BULK AT MOST 1048576: true; the input reads as it did. -/
def stampOrderUptoRow : OpenClaim := { program := "ytjjggnipicpjkaa", sum := "0f10ef0323f7cbce840e01452e6843a20d41f7bb0c18641615534f5e4af5fb5c", func := "lintel/lintellaw11.StampOrder", spec := "stampOrder", unfollowed := true, recurses := true, apart := false, narrowed := true }
def StampOrderUptoSaid : Prop := stampOrderUptoRow.holds Try.pinned (OpenSpec.upto stampOrderSpec)

/-- 'lintellaw11.StampYears', WHERE WHAT IT READS IS OF BULK AT MOST 1048576: true; the input reads as it did. -/
def stampYearsUptoRow : OpenClaim := { program := "ytjjggnipicpjkaa", sum := "0f10ef0323f7cbce840e01452e6843a20d41f7bb0c18641615534f5e4af5fb5c", func := "lintel/lintellaw11.StampYears", spec := "stampYears", unfollowed := true, recurses := true, apart := false, narrowed := true }
def StampYearsUptoSaid : Prop := stampYearsUptoRow.holds Try.pinned (OpenSpec.upto stampYearsSpec)

/-- 'lintellaw11.StampHours', WHERE WHAT IT READS IS OF BULK AT MOST 1048576: true; the input reads as it did. -/
def stampHoursUptoRow : OpenClaim := { program := "ytjjggnipicpjkaa", sum := "0f10ef0323f7cbce840e01452e6843a20d41f7bb0c18641615534f5e4af5fb5c", func := "lintel/lintellaw11.StampHours", spec := "stampHours", unfollowed := true, recurses := true, apart := false, narrowed := true }
def StampHoursUptoSaid : Prop := stampHoursUptoRow.holds Try.pinned (OpenSpec.upto stampHoursSpec)

/-- 'lintellaw11.StampAhead', WHERE WHAT IT READS IS OF BULK AT MOST 1048576: true; the input reads as it did. -/
def stampAheadUptoRow : OpenClaim := { program := "ytjjggnipicpjkaa", sum := "0f10ef0323f7cbce840e01452e6843a20d41f7bb0c18641615534f5e4af5fb5c", func := "lintel/lintellaw11.StampAhead", spec := "stampAhead", unfollowed := true, recurses := true, apart := false, narrowed := true }
def StampAheadUptoSaid : Prop := stampAheadUptoRow.holds Try.pinned (OpenSpec.upto stampAheadSpec)

/-- 'lintellaw11.StampRest', WHERE WHAT IT READS IS OF BULK AT MOST 1048576: true; the input reads as it did. -/
def stampRestUptoRow : OpenClaim := { program := "ytjjggnipicpjkaa", sum := "0f10ef0323f7cbce840e01452e6843a20d41f7bb0c18641615534f5e4af5fb5c", func := "lintel/lintellaw11.StampRest", spec := "stampRest", unfollowed := true, recurses := true, apart := false, narrowed := true }
def StampRestUptoSaid : Prop := stampRestUptoRow.holds Try.pinned (OpenSpec.upto stampRestSpec)

/-- 'lintellaw11.StampTells', WHERE WHAT IT READS IS OF BULK AT MOST 1048576: true; the input reads as it did. -/
def stampTellsUptoRow : OpenClaim := { program := "ytjjggnipicpjkaa", sum := "0f10ef0323f7cbce840e01452e6843a20d41f7bb0c18641615534f5e4af5fb5c", func := "lintel/lintellaw11.StampTells", spec := "stampTells", unfollowed := true, recurses := true, apart := false, narrowed := true }
def StampTellsUptoSaid : Prop := stampTellsUptoRow.holds Try.pinned (OpenSpec.upto stampTellsSpec)

/-- 'lintellaw11.StampBack', WHERE WHAT IT READS IS OF BULK AT MOST 1048576: true; the input reads as it did. -/
def stampBackUptoRow : OpenClaim := { program := "ytjjggnipicpjkaa", sum := "0f10ef0323f7cbce840e01452e6843a20d41f7bb0c18641615534f5e4af5fb5c", func := "lintel/lintellaw11.StampBack", spec := "stampBack", unfollowed := true, recurses := true, apart := false, narrowed := true }
def StampBackUptoSaid : Prop := stampBackUptoRow.holds Try.pinned (OpenSpec.upto stampBackSpec)

/-- 'lintellaw11.StampTexts', WHERE WHAT IT READS IS OF BULK AT MOST 1048576: true; the input reads as it did. -/
def stampTextsUptoRow : OpenClaim := { program := "ytjjggnipicpjkaa", sum := "0f10ef0323f7cbce840e01452e6843a20d41f7bb0c18641615534f5e4af5fb5c", func := "lintel/lintellaw11.StampTexts", spec := "stampTexts", unfollowed := true, recurses := true, apart := false, narrowed := true }
def StampTextsUptoSaid : Prop := stampTextsUptoRow.holds Try.pinned (OpenSpec.upto stampTextsSpec)

/-- 'lintellaw11.StampCuts', WHERE WHAT IT READS IS OF BULK AT MOST 1048576: true; the input reads as it did. -/
def stampCutsUptoRow : OpenClaim := { program := "ytjjggnipicpjkaa", sum := "0f10ef0323f7cbce840e01452e6843a20d41f7bb0c18641615534f5e4af5fb5c", func := "lintel/lintellaw11.StampCuts", spec := "stampCuts", unfollowed := true, recurses := true, apart := false, narrowed := true }
def StampCutsUptoSaid : Prop := stampCutsUptoRow.holds Try.pinned (OpenSpec.upto stampCutsSpec)

end Rows
end Go.Proofs.Ytjjggnipicpjkaa
