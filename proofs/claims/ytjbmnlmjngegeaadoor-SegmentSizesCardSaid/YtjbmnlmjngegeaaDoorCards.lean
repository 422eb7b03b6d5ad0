/-
  DERIVED. GIVEN WITH THE SEED: THE CARDS: each row of YtjbmnlmjngegeaaDoorRows.lean that lists a variable, with what it lists TIED to the program's text (the seventh form; the later family's looks); each row that meets fmt, with fmt's text TOLD by the authors' own Lean function (tested against real Go, not proved from fmt's source: count such statements apart). THE CARD IS WHAT COUNTS. Prove the row's statement (the work); the ties are given (YtjbmnlmjngegeaaDoorTie.lean); close each card by the builder's one call (the guide's Derived/Test/ToyasCard.lean, 'card_holds'). Laid BY PROGRAM, IN A SANDBOX (cutbox-door.mjs). By AI agents, Wed Nov 11 2026. No macro, syntax, notation, axiom, sorry.
-/
import Derived.Test.YtjbmnlmjngegeaaDoorRows
import GoSem.ClaimSeven
namespace Go.Proofs.YtjbmnlmjngegeaaDoor
namespace Rows

/-- THE TIED CARD OF 'chantrylaw28.SegmentPuts'. -/
def segmentPutsCard : Claim7 := { stood := { row := segmentPutsRow, standIns := [], harness := (true, "fd9c7b83851dc5e3e566bbf964d48f6db0fe72fd6a6ccb6f8d198df498eb60c2"), looks := false }, kinds := [], alts := [], laidByText := true, laidKinds := [.data], laidTests := true, laidLooks := .later }
def SegmentPutsCardSaid : Prop := Claim7.holds Tryd.pinned (.plain (OpenSpec.ofChange segmentPutsSpec)) segmentPutsCard

/-- THE TIED CARD OF 'chantrylaw28.SegmentGets'. -/
def segmentGetsCard : Claim7 := { stood := { row := segmentGetsRow, standIns := [], harness := (true, "fd9c7b83851dc5e3e566bbf964d48f6db0fe72fd6a6ccb6f8d198df498eb60c2"), looks := false }, kinds := [], alts := [], laidByText := true, laidKinds := [.data], laidTests := true, laidLooks := .later }
def SegmentGetsCardSaid : Prop := Claim7.holds Tryd.pinned (.plain (OpenSpec.ofChange segmentGetsSpec)) segmentGetsCard

/-- THE TIED CARD OF 'chantrylaw28.SegmentRescues'. -/
def segmentRescuesCard : Claim7 := { stood := { row := segmentRescuesRow, standIns := [], harness := (true, "fd9c7b83851dc5e3e566bbf964d48f6db0fe72fd6a6ccb6f8d198df498eb60c2"), looks := false }, kinds := [], alts := [], laidByText := true, laidKinds := [.data], laidTests := true, laidLooks := .later }
def SegmentRescuesCardSaid : Prop := Claim7.holds Tryd.pinned (.plain (OpenSpec.ofChange segmentRescuesSpec)) segmentRescuesCard

/-- THE TIED CARD OF 'chantrylaw28.SegmentSizes'. -/
def segmentSizesCard : Claim7 := { stood := { row := segmentSizesRow, standIns := [], harness := (true, "fd9c7b83851dc5e3e566bbf964d48f6db0fe72fd6a6ccb6f8d198df498eb60c2"), looks := false }, kinds := [], alts := [], laidByText := true, laidKinds := [.data], laidTests := true, laidLooks := .later }
def SegmentSizesCardSaid : Prop := Claim7.holds Tryd.pinned (.plain (OpenSpec.ofChange segmentSizesSpec)) segmentSizesCard

/-- THE SECOND FORM's CARD OF 'chantrylaw28.SegmentPuts'. -/
def segmentPutsUptoCard : Claim7 := { stood := { row := segmentPutsUptoRow, standIns := [], harness := (true, "fd9c7b83851dc5e3e566bbf964d48f6db0fe72fd6a6ccb6f8d198df498eb60c2"), looks := false }, kinds := [], alts := [], laidByText := true, laidKinds := [.data], laidTests := true, laidLooks := .later }
def SegmentPutsUptoCardSaid : Prop := Claim7.holds Tryd.pinned (.plain (OpenSpec.upto segmentPutsSpec)) segmentPutsUptoCard

/-- THE SECOND FORM's CARD OF 'chantrylaw28.SegmentGets'. -/
def segmentGetsUptoCard : Claim7 := { stood := { row := segmentGetsUptoRow, standIns := [], harness := (true, "fd9c7b83851dc5e3e566bbf964d48f6db0fe72fd6a6ccb6f8d198df498eb60c2"), looks := false }, kinds := [], alts := [], laidByText := true, laidKinds := [.data], laidTests := true, laidLooks := .later }
def SegmentGetsUptoCardSaid : Prop := Claim7.holds Tryd.pinned (.plain (OpenSpec.upto segmentGetsSpec)) segmentGetsUptoCard

/-- THE SECOND FORM's CARD OF 'chantrylaw28.SegmentRescues'. -/
def segmentRescuesUptoCard : Claim7 := { stood := { row := segmentRescuesUptoRow, standIns := [], harness := (true, "fd9c7b83851dc5e3e566bbf964d48f6db0fe72fd6a6ccb6f8d198df498eb60c2"), looks := false }, kinds := [], alts := [], laidByText := true, laidKinds := [.data], laidTests := true, laidLooks := .later }
def SegmentRescuesUptoCardSaid : Prop := Claim7.holds Tryd.pinned (.plain (OpenSpec.upto segmentRescuesSpec)) segmentRescuesUptoCard

/-- THE SECOND FORM's CARD OF 'chantrylaw28.SegmentSizes'. -/
def segmentSizesUptoCard : Claim7 := { stood := { row := segmentSizesUptoRow, standIns := [], harness := (true, "fd9c7b83851dc5e3e566bbf964d48f6db0fe72fd6a6ccb6f8d198df498eb60c2"), looks := false }, kinds := [], alts := [], laidByText := true, laidKinds := [.data], laidTests := true, laidLooks := .later }
def SegmentSizesUptoCardSaid : Prop := Claim7.holds Tryd.pinned (.plain (OpenSpec.upto segmentSizesSpec)) segmentSizesUptoCard
end Rows
end Go.Proofs.YtjbmnlmjngegeaaDoor
