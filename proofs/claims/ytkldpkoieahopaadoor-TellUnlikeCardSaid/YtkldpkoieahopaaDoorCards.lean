/-
  DERIVED. GIVEN WITH THE SEED: THE CARDS: each row of YtkldpkoieahopaaDoorRows.lean that lists a variable, with what it lists TIED to the program's text (the seventh form; the later family's looks); each row that meets fmt, with fmt's text TOLD by the authors' own Lean function (tested against real Go, not proved from fmt's source: count such statements apart). THE CARD IS WHAT COUNTS. Prove the row's statement (the work); the ties are given (YtkldpkoieahopaaDoorTie.lean); close each card by the builder's one call (the guide's Derived/Test/ToyasCard.lean, 'card_holds'). Laid BY PROGRAM, IN A SANDBOX (cutbox-door.mjs). By AI agents, Wed Nov 11 2026. No macro, syntax, notation, axiom, sorry.
-/
import Derived.Test.YtkldpkoieahopaaDoorRows
import GoSem.ClaimSeven
namespace Go.Proofs.YtkldpkoieahopaaDoor
namespace Rows

/-- THE TIED CARD OF 'chantrylaw40.TellSteps'. -/
def tellStepsCard : Claim7 := { stood := { row := tellStepsRow, standIns := [], harness := (true, "67eb04191624dfdfe568894d3c78be0a093b17674466ca91d9c9ec18852b98f9"), looks := false }, kinds := [], alts := [], laidByText := true, laidKinds := [.data, .data, .data, .data, .data], laidTests := true, laidLooks := .later }
def TellStepsCardSaid : Prop := Claim7.holds Tryd.pinned (.plain (OpenSpec.ofChange tellStepsSpec)) tellStepsCard

/-- THE TIED CARD OF 'chantrylaw40.TellStates'. -/
def tellStatesCard : Claim7 := { stood := { row := tellStatesRow, standIns := [], harness := (true, "67eb04191624dfdfe568894d3c78be0a093b17674466ca91d9c9ec18852b98f9"), looks := false }, kinds := [], alts := [], laidByText := true, laidKinds := [.data, .data, .data, .data, .data], laidTests := true, laidLooks := .later }
def TellStatesCardSaid : Prop := Claim7.holds Tryd.pinned (.plain (OpenSpec.ofChange tellStatesSpec)) tellStatesCard

/-- THE TIED CARD OF 'chantrylaw40.TellUnlike'. -/
def tellUnlikeCard : Claim7 := { stood := { row := tellUnlikeRow, standIns := [], harness := (true, "67eb04191624dfdfe568894d3c78be0a093b17674466ca91d9c9ec18852b98f9"), looks := false }, kinds := [], alts := [], laidByText := true, laidKinds := [.data, .data, .data, .data, .data], laidTests := true, laidLooks := .later }
def TellUnlikeCardSaid : Prop := Claim7.holds Tryd.pinned (.plain (OpenSpec.ofChange tellUnlikeSpec)) tellUnlikeCard

/-- THE SECOND FORM's CARD OF 'chantrylaw40.TellSteps'. -/
def tellStepsUptoCard : Claim7 := { stood := { row := tellStepsUptoRow, standIns := [], harness := (true, "67eb04191624dfdfe568894d3c78be0a093b17674466ca91d9c9ec18852b98f9"), looks := false }, kinds := [], alts := [], laidByText := true, laidKinds := [.data, .data, .data, .data, .data], laidTests := true, laidLooks := .later }
def TellStepsUptoCardSaid : Prop := Claim7.holds Tryd.pinned (.plain (OpenSpec.upto tellStepsSpec)) tellStepsUptoCard

/-- THE SECOND FORM's CARD OF 'chantrylaw40.TellStates'. -/
def tellStatesUptoCard : Claim7 := { stood := { row := tellStatesUptoRow, standIns := [], harness := (true, "67eb04191624dfdfe568894d3c78be0a093b17674466ca91d9c9ec18852b98f9"), looks := false }, kinds := [], alts := [], laidByText := true, laidKinds := [.data, .data, .data, .data, .data], laidTests := true, laidLooks := .later }
def TellStatesUptoCardSaid : Prop := Claim7.holds Tryd.pinned (.plain (OpenSpec.upto tellStatesSpec)) tellStatesUptoCard

/-- THE SECOND FORM's CARD OF 'chantrylaw40.TellUnlike'. -/
def tellUnlikeUptoCard : Claim7 := { stood := { row := tellUnlikeUptoRow, standIns := [], harness := (true, "67eb04191624dfdfe568894d3c78be0a093b17674466ca91d9c9ec18852b98f9"), looks := false }, kinds := [], alts := [], laidByText := true, laidKinds := [.data, .data, .data, .data, .data], laidTests := true, laidLooks := .later }
def TellUnlikeUptoCardSaid : Prop := Claim7.holds Tryd.pinned (.plain (OpenSpec.upto tellUnlikeSpec)) tellUnlikeUptoCard
end Rows
end Go.Proofs.YtkldpkoieahopaaDoor
