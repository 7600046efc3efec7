/-
  DERIVED. GIVEN WITH THE SEED: THE CARDS: each row of YtbfhgpaobnlodaaDoorRows.lean that lists a variable, with what it lists TIED to the program's text (the seventh form; the later family's looks); each row that meets fmt, with fmt's text TOLD by the authors' own Lean function (tested against real Go, not proved from fmt's source: count such statements apart). THE CARD IS WHAT COUNTS. Prove the row's statement (the work); the ties are given (YtbfhgpaobnlodaaDoorTie.lean); close each card by the builder's one call (the guide's Derived/Test/ToyasCard.lean, 'card_holds'). Laid BY PROGRAM, IN A SANDBOX (cutbox-door.mjs). By AI agents, Wed Nov 11 2026. No macro, syntax, notation, axiom, sorry.
-/
import Derived.Test.YtbfhgpaobnlodaaDoorRows
import GoSem.ClaimSeven
namespace Go.Proofs.YtbfhgpaobnlodaaDoor
namespace Rows

/-- THE TIED CARD OF 'lintellaw02.CrcSums'. -/
def crcSumsCard : Claim7 := { stood := { row := crcSumsRow, standIns := [], harness := (true, "8225f600c68aed27dbf72ee22198d5ef67f835f8f379f8be8eb6f78bbe8e85c7"), looks := false }, kinds := [], alts := [], laidByText := true, laidKinds := [.data], laidTests := true, laidLooks := .later }
def CrcSumsCardSaid : Prop := Claim7.holds Tryd.pinned (.plain (OpenSpec.ofChange crcSumsSpec)) crcSumsCard

/-- THE TIED CARD OF 'lintellaw02.CrcParts'. -/
def crcPartsCard : Claim7 := { stood := { row := crcPartsRow, standIns := [], harness := (true, "8225f600c68aed27dbf72ee22198d5ef67f835f8f379f8be8eb6f78bbe8e85c7"), looks := false }, kinds := [], alts := [], laidByText := true, laidKinds := [.data], laidTests := true, laidLooks := .later }
def CrcPartsCardSaid : Prop := Claim7.holds Tryd.pinned (.plain (OpenSpec.ofChange crcPartsSpec)) crcPartsCard

/-- THE TIED CARD OF 'lintellaw02.CrcTogether'. -/
def crcTogetherCard : Claim7 := { stood := { row := crcTogetherRow, standIns := [], harness := (true, "8225f600c68aed27dbf72ee22198d5ef67f835f8f379f8be8eb6f78bbe8e85c7"), looks := false }, kinds := [], alts := [], laidByText := true, laidKinds := [.data], laidTests := true, laidLooks := .later }
def CrcTogetherCardSaid : Prop := Claim7.holds Tryd.pinned (.plain (OpenSpec.ofChange crcTogetherSpec)) crcTogetherCard

/-- THE TIED CARD OF 'lintellaw02.CrcRest'. -/
def crcRestCard : Claim7 := { stood := { row := crcRestRow, standIns := [], harness := (true, "8225f600c68aed27dbf72ee22198d5ef67f835f8f379f8be8eb6f78bbe8e85c7"), looks := false }, kinds := [], alts := [], laidByText := true, laidKinds := [.data], laidTests := true, laidLooks := .later }
def CrcRestCardSaid : Prop := Claim7.holds Tryd.pinned (.plain (OpenSpec.ofChange crcRestSpec)) crcRestCard

/-- THE TIED CARD OF 'lintellaw02.CrcBursts'. -/
def crcBurstsCard : Claim7 := { stood := { row := crcBurstsRow, standIns := [], harness := (true, "8225f600c68aed27dbf72ee22198d5ef67f835f8f379f8be8eb6f78bbe8e85c7"), looks := false }, kinds := [], alts := [], laidByText := true, laidKinds := [.data], laidTests := true, laidLooks := .later }
def CrcBurstsCardSaid : Prop := Claim7.holds Tryd.pinned (.plain (OpenSpec.ofChange crcBurstsSpec)) crcBurstsCard

/-- THE TIED CARD OF 'lintellaw02.CrcApart'. -/
def crcApartCard : Claim7 := { stood := { row := crcApartRow, standIns := [], harness := (true, "8225f600c68aed27dbf72ee22198d5ef67f835f8f379f8be8eb6f78bbe8e85c7"), looks := false }, kinds := [], alts := [], laidByText := true, laidKinds := [.data], laidTests := true, laidLooks := .later }
def CrcApartCardSaid : Prop := Claim7.holds Tryd.pinned (.plain (OpenSpec.ofChange crcApartSpec)) crcApartCard

/-- THE SECOND FORM's CARD OF 'lintellaw02.CrcSums'. -/
def crcSumsUptoCard : Claim7 := { stood := { row := crcSumsUptoRow, standIns := [], harness := (true, "8225f600c68aed27dbf72ee22198d5ef67f835f8f379f8be8eb6f78bbe8e85c7"), looks := false }, kinds := [], alts := [], laidByText := true, laidKinds := [.data], laidTests := true, laidLooks := .later }
def CrcSumsUptoCardSaid : Prop := Claim7.holds Tryd.pinned (.plain (OpenSpec.upto crcSumsSpec)) crcSumsUptoCard

/-- THE SECOND FORM's CARD OF 'lintellaw02.CrcParts'. -/
def crcPartsUptoCard : Claim7 := { stood := { row := crcPartsUptoRow, standIns := [], harness := (true, "8225f600c68aed27dbf72ee22198d5ef67f835f8f379f8be8eb6f78bbe8e85c7"), looks := false }, kinds := [], alts := [], laidByText := true, laidKinds := [.data], laidTests := true, laidLooks := .later }
def CrcPartsUptoCardSaid : Prop := Claim7.holds Tryd.pinned (.plain (OpenSpec.upto crcPartsSpec)) crcPartsUptoCard

/-- THE SECOND FORM's CARD OF 'lintellaw02.CrcTogether'. -/
def crcTogetherUptoCard : Claim7 := { stood := { row := crcTogetherUptoRow, standIns := [], harness := (true, "8225f600c68aed27dbf72ee22198d5ef67f835f8f379f8be8eb6f78bbe8e85c7"), looks := false }, kinds := [], alts := [], laidByText := true, laidKinds := [.data], laidTests := true, laidLooks := .later }
def CrcTogetherUptoCardSaid : Prop := Claim7.holds Tryd.pinned (.plain (OpenSpec.upto crcTogetherSpec)) crcTogetherUptoCard

/-- THE SECOND FORM's CARD OF 'lintellaw02.CrcRest'. -/
def crcRestUptoCard : Claim7 := { stood := { row := crcRestUptoRow, standIns := [], harness := (true, "8225f600c68aed27dbf72ee22198d5ef67f835f8f379f8be8eb6f78bbe8e85c7"), looks := false }, kinds := [], alts := [], laidByText := true, laidKinds := [.data], laidTests := true, laidLooks := .later }
def CrcRestUptoCardSaid : Prop := Claim7.holds Tryd.pinned (.plain (OpenSpec.upto crcRestSpec)) crcRestUptoCard

/-- THE SECOND FORM's CARD OF 'lintellaw02.CrcBursts'. -/
def crcBurstsUptoCard : Claim7 := { stood := { row := crcBurstsUptoRow, standIns := [], harness := (true, "8225f600c68aed27dbf72ee22198d5ef67f835f8f379f8be8eb6f78bbe8e85c7"), looks := false }, kinds := [], alts := [], laidByText := true, laidKinds := [.data], laidTests := true, laidLooks := .later }
def CrcBurstsUptoCardSaid : Prop := Claim7.holds Tryd.pinned (.plain (OpenSpec.upto crcBurstsSpec)) crcBurstsUptoCard

/-- THE SECOND FORM's CARD OF 'lintellaw02.CrcApart'. -/
def crcApartUptoCard : Claim7 := { stood := { row := crcApartUptoRow, standIns := [], harness := (true, "8225f600c68aed27dbf72ee22198d5ef67f835f8f379f8be8eb6f78bbe8e85c7"), looks := false }, kinds := [], alts := [], laidByText := true, laidKinds := [.data], laidTests := true, laidLooks := .later }
def CrcApartUptoCardSaid : Prop := Claim7.holds Tryd.pinned (.plain (OpenSpec.upto crcApartSpec)) crcApartUptoCard
end Rows
end Go.Proofs.YtbfhgpaobnlodaaDoor
