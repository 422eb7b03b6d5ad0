/-
  DERIVED. GIVEN WITH THE SEED: THE CARDS: each row of YtafehnehjkkklaaDoorRows.lean that lists a variable, with what it lists TIED to the program's text (the seventh form; the later family's looks); each row that meets fmt, with fmt's text TOLD by the authors' own Lean function (tested against real Go, not proved from fmt's source: count such statements apart). THE CARD IS WHAT COUNTS. Prove the row's statement (the work); the ties are given (YtafehnehjkkklaaDoorTie.lean); close each card by the builder's one call (the guide's Derived/Test/ToyasCard.lean, 'card_holds'). Laid BY PROGRAM, IN A SANDBOX (cutbox-door.mjs). By AI agents, Wed Nov 11 2026. No macro, syntax, notation, axiom, sorry.
-/
import Derived.Test.YtafehnehjkkklaaDoorRows
import GoSem.ClaimSeven
namespace Go.Proofs.YtafehnehjkkklaaDoor
namespace Rows

/-- THE TIED CARD OF 'chantrylaw03.ShaIDs'. -/
def shaIDsCard : Claim7 := { stood := { row := shaIDsRow, standIns := [], harness := (true, "48f606449d3c6719efd38c15070701aada4f0129a8d4da953eac09999a284e24"), looks := false }, kinds := [], alts := [], laidByText := true, laidKinds := [.data], laidTests := true, laidLooks := .later }
def ShaIDsCardSaid : Prop := Claim7.holds Tryd.pinned (.plain (OpenSpec.ofChange shaIDsSpec)) shaIDsCard

/-- THE TIED CARD OF 'chantrylaw03.ShaParts'. -/
def shaPartsCard : Claim7 := { stood := { row := shaPartsRow, standIns := [], harness := (true, "48f606449d3c6719efd38c15070701aada4f0129a8d4da953eac09999a284e24"), looks := false }, kinds := [], alts := [], laidByText := true, laidKinds := [.data], laidTests := true, laidLooks := .later }
def ShaPartsCardSaid : Prop := Claim7.holds Tryd.pinned (.plain (OpenSpec.ofChange shaPartsSpec)) shaPartsCard

/-- THE TIED CARD OF 'chantrylaw03.ShaOne'. -/
def shaOneCard : Claim7 := { stood := { row := shaOneRow, standIns := [], harness := (true, "48f606449d3c6719efd38c15070701aada4f0129a8d4da953eac09999a284e24"), looks := false }, kinds := [], alts := [], laidByText := true, laidKinds := [.data], laidTests := true, laidLooks := .later }
def ShaOneCardSaid : Prop := Claim7.holds Tryd.pinned (.plain (OpenSpec.ofChange shaOneSpec)) shaOneCard

/-- THE SECOND FORM's CARD OF 'chantrylaw03.ShaIDs'. -/
def shaIDsUptoCard : Claim7 := { stood := { row := shaIDsUptoRow, standIns := [], harness := (true, "48f606449d3c6719efd38c15070701aada4f0129a8d4da953eac09999a284e24"), looks := false }, kinds := [], alts := [], laidByText := true, laidKinds := [.data], laidTests := true, laidLooks := .later }
def ShaIDsUptoCardSaid : Prop := Claim7.holds Tryd.pinned (.plain (OpenSpec.upto shaIDsSpec)) shaIDsUptoCard

/-- THE SECOND FORM's CARD OF 'chantrylaw03.ShaParts'. -/
def shaPartsUptoCard : Claim7 := { stood := { row := shaPartsUptoRow, standIns := [], harness := (true, "48f606449d3c6719efd38c15070701aada4f0129a8d4da953eac09999a284e24"), looks := false }, kinds := [], alts := [], laidByText := true, laidKinds := [.data], laidTests := true, laidLooks := .later }
def ShaPartsUptoCardSaid : Prop := Claim7.holds Tryd.pinned (.plain (OpenSpec.upto shaPartsSpec)) shaPartsUptoCard

/-- THE SECOND FORM's CARD OF 'chantrylaw03.ShaOne'. -/
def shaOneUptoCard : Claim7 := { stood := { row := shaOneUptoRow, standIns := [], harness := (true, "48f606449d3c6719efd38c15070701aada4f0129a8d4da953eac09999a284e24"), looks := false }, kinds := [], alts := [], laidByText := true, laidKinds := [.data], laidTests := true, laidLooks := .later }
def ShaOneUptoCardSaid : Prop := Claim7.holds Tryd.pinned (.plain (OpenSpec.upto shaOneSpec)) shaOneUptoCard
end Rows
end Go.Proofs.YtafehnehjkkklaaDoor
