/-
  What the frames of this seat share: the table as the row lists it, and what it gives the walks.
-/
import Derived.Test.YtbfhgpaobnlodaaDoorFrame
import Derived.Test.YtbfhgpaobnlodaaDoorCrcWalks
import Derived.LaidMore
import Derived.Lib.LaidTab
import Derived.Stop.Joined
namespace Go.Proofs.YtbfhgpaobnlodaaDoor
open Go Go.RowKit Go.ChangeShapes Go.WideShapes Go.ChangeAt

def laidL : List (String × DataW Unit) := [("lintel/crc.table", Rows.laid_lintel_crc_table)]
theorem gTab : Tryd.prog.globalNamed "lintel/crc.table" = some 0 := by kernel_rfl
theorem tTab : (Tryd.prog.globals[0]?).map (·.type) = some 38 := by kernel_rfl

theorem door_met (os : Os) (args : Array Value) : laidMetH Tryd.prog laidL ((World.doorLaid Tryd.prog 400 os).forCall (fun _ _ => 0) ⟨#[], args, []⟩).memory :=
  laidMetH_of_parts3 (fuel := 8) (laidMet_of_run' 8 (by kernel_rfl) (by kernel_rfl)) (by kernel_rfl) (by kernel_rfl)

theorem tab_of_laid {W : World} (h : laidMetH Tryd.prog laidL W) : Tab W := by
  rw [MakeChecks.laidMetH_plain _ _ _ (by kernel_rfl)] at h
  have h1 : laidMet Tryd.prog (("lintel/crc.table", Lib.tabData .u32 (tabL.map fun z => (z.toNat : Int))) :: []) W := h
  have hT := Lib.tabIs_of_head gTab tTab Tryd.underlying38 Tryd.underlying22 (by kernel_rfl) (by kernel_rfl) h1
  intro j hj
  have hc := hT.cell gTab j (by simpa [tabL] using hj)
  rw [hc]
  have : (tabL.map fun z => (z.toNat : Int)).getD j 0 = ((tab j).toNat : Int) := by
    have hl : j < tabL.length := by simpa [tabL] using hj
    simp [tab, List.getD, hl]
  rw [this]

end Go.Proofs.YtbfhgpaobnlodaaDoor
