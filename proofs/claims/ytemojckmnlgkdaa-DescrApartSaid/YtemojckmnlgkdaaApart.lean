/-
  The contract of the statements' helper Apart: of slices of bytes in rows of their own that do not share one it answers true, and turns nothing that was there ahead of them.
-/
import Derived.Test.YtemojckmnlgkdaaApart1
import Derived.BigQuiet
import Derived.StillTailTactics
import Derived.WalkSmall
namespace Go.Proofs.Ytemojckmnlgkdaa
open Go Go.RowKit

theorem byt_drewN {w : World} {v : Value} {l : List UInt8} (n : Nat) (h : Byt w v l) : Byt (w.drewN n) v l := h.below (below_drewN (Below.refl _ _) n)
end Go.Proofs.Ytemojckmnlgkdaa
