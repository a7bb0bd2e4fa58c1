/-
  DERIVED. GIVEN WITH THE SEED: THE CARDS: each row of YtdnaahbhfjclpaaGreatDoorRows.lean that lists a variable, with what it lists TIED to the program's text (the seventh form; the later family's looks); each row that meets fmt, with fmt's text TOLD by the authors' own Lean function (tested against real Go, not proved from fmt's source: count such statements apart). THE CARD IS WHAT COUNTS. Prove the row's statement (the work); the ties are given (YtdnaahbhfjclpaaGreatDoorTie.lean); close each card by the builder's one call (the guide's Derived/Test/ToyasCard.lean, 'card_holds'). Laid BY PROGRAM, IN A SANDBOX (cutbox-door.mjs). By AI agents, Wed Nov 11 2026. No macro, syntax, notation, axiom, sorry.
-/
import Derived.Test.YtdnaahbhfjclpaaGreatDoorRows
import GoSem.ClaimSeven
namespace Go.Proofs.YtdnaahbhfjclpaaGreatDoor
namespace Rows

/-- THE TIED CARD OF 'salternlaw11.PackReads'. -/
def packReadsCard : Claim7 := { stood := { row := packReadsRow, standIns := [], harness := (true, "5abf3d4bd4518aaefc66e75d8e888cf38d3ee2d00355bc82eb7616d908eb051a"), looks := true }, kinds := [], alts := [], laidByText := true, laidKinds := [.data, .pinned], laidTests := true, laidLooks := .later }
def PackReadsCardSaid : Prop := Claim7.holds Tryz.pinned (.plain (OpenSpec.ofChange packReadsSpec)) packReadsCard

/-- THE TIED CARD OF 'salternlaw11.PackSpoilt'. -/
def packSpoiltCard : Claim7 := { stood := { row := packSpoiltRow, standIns := [], harness := (true, "5abf3d4bd4518aaefc66e75d8e888cf38d3ee2d00355bc82eb7616d908eb051a"), looks := true }, kinds := [], alts := [], laidByText := true, laidKinds := [.data, .pinned], laidTests := true, laidLooks := .later }
def PackSpoiltCardSaid : Prop := Claim7.holds Tryz.pinned (.plain (OpenSpec.ofChange packSpoiltSpec)) packSpoiltCard

/-- THE TIED CARD OF 'salternlaw11.PackBytes'. -/
def packBytesCard : Claim7 := { stood := { row := packBytesRow, standIns := [], harness := (true, "5abf3d4bd4518aaefc66e75d8e888cf38d3ee2d00355bc82eb7616d908eb051a"), looks := true }, kinds := [], alts := [], laidByText := true, laidKinds := [.data, .pinned], laidTests := true, laidLooks := .later }
def PackBytesCardSaid : Prop := Claim7.holds Tryz.pinned (.plain (OpenSpec.ofChange packBytesSpec)) packBytesCard

/-- THE TIED CARD OF 'salternlaw11.PackHeads'. -/
def packHeadsCard : Claim7 := { stood := { row := packHeadsRow, standIns := [], harness := (true, "5abf3d4bd4518aaefc66e75d8e888cf38d3ee2d00355bc82eb7616d908eb051a"), looks := true }, kinds := [], alts := [], laidByText := true, laidKinds := [.data, .pinned], laidTests := true, laidLooks := .later }
def PackHeadsCardSaid : Prop := Claim7.holds Tryz.pinned (.plain (OpenSpec.ofChange packHeadsSpec)) packHeadsCard

/-- THE TIED CARD OF 'salternlaw11.PackBack'. -/
def packBackCard : Claim7 := { stood := { row := packBackRow, standIns := [], harness := (true, "5abf3d4bd4518aaefc66e75d8e888cf38d3ee2d00355bc82eb7616d908eb051a"), looks := true }, kinds := [], alts := [], laidByText := true, laidKinds := [.data, .pinned], laidTests := true, laidLooks := .later }
def PackBackCardSaid : Prop := Claim7.holds Tryz.pinned (.plain (OpenSpec.ofChange packBackSpec)) packBackCard

/-- THE TIED CARD OF 'salternlaw11.PackTrue'. -/
def packTrueCard : Claim7 := { stood := { row := packTrueRow, standIns := [], harness := (true, "5abf3d4bd4518aaefc66e75d8e888cf38d3ee2d00355bc82eb7616d908eb051a"), looks := true }, kinds := [], alts := [], laidByText := true, laidKinds := [.data, .pinned], laidTests := true, laidLooks := .later }
def PackTrueCardSaid : Prop := Claim7.holds Tryz.pinned (.plain (OpenSpec.ofChange packTrueSpec)) packTrueCard

/-- THE SECOND FORM's CARD OF 'salternlaw11.PackReads'. -/
def packReadsUptoCard : Claim7 := { stood := { row := packReadsUptoRow, standIns := [], harness := (true, "5abf3d4bd4518aaefc66e75d8e888cf38d3ee2d00355bc82eb7616d908eb051a"), looks := true }, kinds := [], alts := [], laidByText := true, laidKinds := [.data, .pinned], laidTests := true, laidLooks := .later }
def PackReadsUptoCardSaid : Prop := Claim7.holds Tryz.pinned (.plain (OpenSpec.upto packReadsSpec)) packReadsUptoCard

/-- THE SECOND FORM's CARD OF 'salternlaw11.PackSpoilt'. -/
def packSpoiltUptoCard : Claim7 := { stood := { row := packSpoiltUptoRow, standIns := [], harness := (true, "5abf3d4bd4518aaefc66e75d8e888cf38d3ee2d00355bc82eb7616d908eb051a"), looks := true }, kinds := [], alts := [], laidByText := true, laidKinds := [.data, .pinned], laidTests := true, laidLooks := .later }
def PackSpoiltUptoCardSaid : Prop := Claim7.holds Tryz.pinned (.plain (OpenSpec.upto packSpoiltSpec)) packSpoiltUptoCard

/-- THE SECOND FORM's CARD OF 'salternlaw11.PackBytes'. -/
def packBytesUptoCard : Claim7 := { stood := { row := packBytesUptoRow, standIns := [], harness := (true, "5abf3d4bd4518aaefc66e75d8e888cf38d3ee2d00355bc82eb7616d908eb051a"), looks := true }, kinds := [], alts := [], laidByText := true, laidKinds := [.data, .pinned], laidTests := true, laidLooks := .later }
def PackBytesUptoCardSaid : Prop := Claim7.holds Tryz.pinned (.plain (OpenSpec.upto packBytesSpec)) packBytesUptoCard

/-- THE SECOND FORM's CARD OF 'salternlaw11.PackHeads'. -/
def packHeadsUptoCard : Claim7 := { stood := { row := packHeadsUptoRow, standIns := [], harness := (true, "5abf3d4bd4518aaefc66e75d8e888cf38d3ee2d00355bc82eb7616d908eb051a"), looks := true }, kinds := [], alts := [], laidByText := true, laidKinds := [.data, .pinned], laidTests := true, laidLooks := .later }
def PackHeadsUptoCardSaid : Prop := Claim7.holds Tryz.pinned (.plain (OpenSpec.upto packHeadsSpec)) packHeadsUptoCard

/-- THE SECOND FORM's CARD OF 'salternlaw11.PackBack'. -/
def packBackUptoCard : Claim7 := { stood := { row := packBackUptoRow, standIns := [], harness := (true, "5abf3d4bd4518aaefc66e75d8e888cf38d3ee2d00355bc82eb7616d908eb051a"), looks := true }, kinds := [], alts := [], laidByText := true, laidKinds := [.data, .pinned], laidTests := true, laidLooks := .later }
def PackBackUptoCardSaid : Prop := Claim7.holds Tryz.pinned (.plain (OpenSpec.upto packBackSpec)) packBackUptoCard

/-- THE SECOND FORM's CARD OF 'salternlaw11.PackTrue'. -/
def packTrueUptoCard : Claim7 := { stood := { row := packTrueUptoRow, standIns := [], harness := (true, "5abf3d4bd4518aaefc66e75d8e888cf38d3ee2d00355bc82eb7616d908eb051a"), looks := true }, kinds := [], alts := [], laidByText := true, laidKinds := [.data, .pinned], laidTests := true, laidLooks := .later }
def PackTrueUptoCardSaid : Prop := Claim7.holds Tryz.pinned (.plain (OpenSpec.upto packTrueSpec)) packTrueUptoCard
end Rows
end Go.Proofs.YtdnaahbhfjclpaaGreatDoor
