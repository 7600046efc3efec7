/-
  No cell of these rows narrows 'for every input' (looked for: loops, veiled, ifaces, maps, wideKeys, modest, calm, conditions, laid).
  DERIVED. THE GIVEN ROWS OF THIS SEAT. 4 by the template 'for every input the law returns true; each argument reads behind the call as it read before'; 0 by the template 'total and deterministic' (their statements: YtemojckmnlgkdaaTotals.lean).
  GIVEN WITH THE SEED: the statements are not yours to turn. If you find one false, say at which input.
  Laid BY PROGRAM, IN A SANDBOX (cutbox-rows.mjs): the forced cells as the released guide's own fill.sh prints them over the translation 4e7be3a796b5c3f8… (all of the seat's roots in one cut). By AI agents, Wed Nov 11 2026. No macro, syntax, notation, axiom, sorry.
-/
import Derived.Test.YtemojckmnlgkdaaChecked
import GoSem.Claim
import GoSem.ClaimJoined
import GoSem.ClaimMapViews
import Derived.JoinedTies
import Derived.KernelRfl
namespace Go.Proofs.Ytemojckmnlgkdaa
/- THE CELL 'sum', in the pinned program and in every row, IS THE sha256 OF THE DUMP (.gsa) THAT YtemojckmnlgkdaaProg.lean LOADS. Nothing in Lean hashes anything: it is a label: what it is worth is what the hold of that sum in a sandbox is worth. -/
noncomputable def Try.pinned : Pinned := { name := "ytemojckmnlgkdaa", sum := "4e7be3a796b5c3f8aef58740b3c763a1150cf552ba7e796f22febb75e41d71a2", checked := Try.checked }
namespace Rows
def none {H : Type} : Left H := { results := [], args := [] }

/-- 'lintellaw20.DescrTells': WHATEVER THE INPUT: true; the input reads as it did. -/
def descrTellsSpec : ChangeSpec := { name := "descrTells", fn := fun _ => fun
  | [d1, d2, d3, d4, d5, d6, d7] => { results := [.lit (.bool true)], args := [d1, d2, d3, d4, d5, d6, d7] }
  | _ => none }
def descrTellsRow : OpenClaim := { program := "ytemojckmnlgkdaa", sum := "4e7be3a796b5c3f8aef58740b3c763a1150cf552ba7e796f22febb75e41d71a2", func := "lintel/lintellaw20.DescrTells", spec := "descrTells", unfollowed := true, recurses := true, apart := false }
def DescrTellsSaid : Prop := descrTellsRow.holds Try.pinned (OpenSpec.ofChange descrTellsSpec)

/-- ITS FALSE NEIGHBOUR: 'it returns false'. Refute it at one input. -/
def descrTellsWrong : ChangeSpec := { name := "descrTells", fn := fun _ => fun
  | [d1, d2, d3, d4, d5, d6, d7] => { results := [.lit (.bool false)], args := [d1, d2, d3, d4, d5, d6, d7] }
  | _ => none }
def DescrTellsWrongFalsely : Prop := descrTellsRow.holds Try.pinned (OpenSpec.ofChange descrTellsWrong)

/-- 'lintellaw20.DescrBack': WHATEVER THE INPUT: true; the input reads as it did. -/
def descrBackSpec : ChangeSpec := { name := "descrBack", fn := fun _ => fun
  | [d1, d2, d3, d4] => { results := [.lit (.bool true)], args := [d1, d2, d3, d4] }
  | _ => none }
def descrBackRow : OpenClaim := { program := "ytemojckmnlgkdaa", sum := "4e7be3a796b5c3f8aef58740b3c763a1150cf552ba7e796f22febb75e41d71a2", func := "lintel/lintellaw20.DescrBack", spec := "descrBack", unfollowed := true, recurses := true, apart := false }
def DescrBackSaid : Prop := descrBackRow.holds Try.pinned (OpenSpec.ofChange descrBackSpec)

/-- ITS FALSE NEIGHBOUR: 'it returns false'. Refute it at one input. -/
def descrBackWrong : ChangeSpec := { name := "descrBack", fn := fun _ => fun
  | [d1, d2, d3, d4] => { results := [.lit (.bool false)], args := [d1, d2, d3, d4] }
  | _ => none }
def DescrBackWrongFalsely : Prop := descrBackRow.holds Try.pinned (OpenSpec.ofChange descrBackWrong)

/-- 'lintellaw20.DescrTurned': WHATEVER THE INPUT: true; the input reads as it did. -/
def descrTurnedSpec : ChangeSpec := { name := "descrTurned", fn := fun _ => fun
  | [d1, d2, d3, d4, d5, d6] => { results := [.lit (.bool true)], args := [d1, d2, d3, d4, d5, d6] }
  | _ => none }
def descrTurnedRow : OpenClaim := { program := "ytemojckmnlgkdaa", sum := "4e7be3a796b5c3f8aef58740b3c763a1150cf552ba7e796f22febb75e41d71a2", func := "lintel/lintellaw20.DescrTurned", spec := "descrTurned", unfollowed := true, recurses := true, apart := false }
def DescrTurnedSaid : Prop := descrTurnedRow.holds Try.pinned (OpenSpec.ofChange descrTurnedSpec)

/-- ITS FALSE NEIGHBOUR: 'it returns false'. Refute it at one input. -/
def descrTurnedWrong : ChangeSpec := { name := "descrTurned", fn := fun _ => fun
  | [d1, d2, d3, d4, d5, d6] => { results := [.lit (.bool false)], args := [d1, d2, d3, d4, d5, d6] }
  | _ => none }
def DescrTurnedWrongFalsely : Prop := descrTurnedRow.holds Try.pinned (OpenSpec.ofChange descrTurnedWrong)

/-- 'lintellaw20.DescrApart': WHATEVER THE INPUT: true; the input reads as it did. -/
def descrApartSpec : ChangeSpec := { name := "descrApart", fn := fun _ => fun
  | [d1, d2] => { results := [.lit (.bool true)], args := [d1, d2] }
  | _ => none }
def descrApartRow : OpenClaim := { program := "ytemojckmnlgkdaa", sum := "4e7be3a796b5c3f8aef58740b3c763a1150cf552ba7e796f22febb75e41d71a2", func := "lintel/lintellaw20.DescrApart", spec := "descrApart", unfollowed := true, recurses := true, apart := false }
def DescrApartSaid : Prop := descrApartRow.holds Try.pinned (OpenSpec.ofChange descrApartSpec)

/-- ITS FALSE NEIGHBOUR: 'it returns false'. Refute it at one input. -/
def descrApartWrong : ChangeSpec := { name := "descrApart", fn := fun _ => fun
  | [d1, d2] => { results := [.lit (.bool false)], args := [d1, d2] }
  | _ => none }
def DescrApartWrongFalsely : Prop := descrApartRow.holds Try.pinned (OpenSpec.ofChange descrApartWrong)

/- THE SECOND FORM. 'bulk': how many values and letters a reading holds, each counted each time it is reached (what is shared counts as often as it is met; a slice's spare places count too). A statement '..UptoSaid' is the law's where the arguments, and the package variables that the reading takes, are together of bulk at most 1048576: NARROWER than '..Said'. Prove '..Said' where nothing that the law and all that it calls make is longer than what came in: it says more and counts as full. Else prove '..UptoSaid'. A law counts once. -/
mutual
def uptoBulk {H : Type} : DataW H → Nat
  | .lit (.string bytes) => bytes.length + 1
  | .lit _ => 1
  | .nil => 1
  | .ptr d => uptoBulk d + 1
  | .slice elems spare => uptoBulkAll elems + uptoBulkAll spare + 1
  | .agg parts => uptoBulkAll parts + 1
  | .iface _ d => uptoBulk d + 1
  | .map entries => uptoBulkEntries entries + 1
  | .held _ => 1
def uptoBulkAll {H : Type} : List (DataW H) → Nat
  | [] => 0
  | d :: r => uptoBulk d + uptoBulkAll r
def uptoBulkEntries {H : Type} : List (Lit × DataW H) → Nat
  | [] => 0
  | x :: r => uptoBulkEntry x + uptoBulkEntries r
def uptoBulkEntry {H : Type} : Lit × DataW H → Nat
  | (.string bytes, d) => bytes.length + uptoBulk d + 1
  | (_, d) => uptoBulk d + 1
 end
def uptoSmall : (H : Type) → List (DataW H) → Bool := fun _ ds => decide (uptoBulkAll ds ≤ 1048576)
def OpenSpec.upto (s : _root_.Go.ChangeSpec) : _root_.Go.OpenSpec := { _root_.Go.OpenSpec.ofChange s with cond := some uptoSmall }

/-- 'lintellaw20.DescrTells', WHERE WHAT IT READS IS OF BULK AT MOST 1048576: true; the input reads as it did. -/
def descrTellsUptoRow : OpenClaim := { program := "ytemojckmnlgkdaa", sum := "4e7be3a796b5c3f8aef58740b3c763a1150cf552ba7e796f22febb75e41d71a2", func := "lintel/lintellaw20.DescrTells", spec := "descrTells", unfollowed := true, recurses := true, apart := false, narrowed := true }
def DescrTellsUptoSaid : Prop := descrTellsUptoRow.holds Try.pinned (OpenSpec.upto descrTellsSpec)

/-- 'lintellaw20.DescrBack', WHERE WHAT IT READS IS OF BULK AT MOST 1048576: true; the input reads as it did. -/
def descrBackUptoRow : OpenClaim := { program := "ytemojckmnlgkdaa", sum := "4e7be3a796b5c3f8aef58740b3c763a1150cf552ba7e796f22febb75e41d71a2", func := "lintel/lintellaw20.DescrBack", spec := "descrBack", unfollowed := true, recurses := true, apart := false, narrowed := true }
def DescrBackUptoSaid : Prop := descrBackUptoRow.holds Try.pinned (OpenSpec.upto descrBackSpec)

/-- 'lintellaw20.DescrTurned', WHERE WHAT IT READS IS OF BULK AT MOST 1048576: true; the input reads as it did. -/
def descrTurnedUptoRow : OpenClaim := { program := "ytemojckmnlgkdaa", sum := "4e7be3a796b5c3f8aef58740b3c763a1150cf552ba7e796f22febb75e41d71a2", func := "lintel/lintellaw20.DescrTurned", spec := "descrTurned", unfollowed := true, recurses := true, apart := false, narrowed := true }
def DescrTurnedUptoSaid : Prop := descrTurnedUptoRow.holds Try.pinned (OpenSpec.upto descrTurnedSpec)

/-- 'lintellaw20.DescrApart', WHERE WHAT IT READS IS OF BULK AT MOST 1048576: true; the input reads as it did. -/
def descrApartUptoRow : OpenClaim := { program := "ytemojckmnlgkdaa", sum := "4e7be3a796b5c3f8aef58740b3c763a1150cf552ba7e796f22febb75e41d71a2", func := "lintel/lintellaw20.DescrApart", spec := "descrApart", unfollowed := true, recurses := true, apart := false, narrowed := true }
def DescrApartUptoSaid : Prop := descrApartUptoRow.holds Try.pinned (OpenSpec.upto descrApartSpec)

end Rows
end Go.Proofs.Ytemojckmnlgkdaa
