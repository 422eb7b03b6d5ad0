/-
  DERIVED. GIVEN WITH THE SEED: THE CARDS: each row of YtghagepgphaboaaDoorRows.lean that lists a variable, with what it lists TIED to the program's text (the seventh form; the later family's looks); each row that meets fmt, with fmt's text TOLD by the authors' own Lean function (tested against real Go, not proved from fmt's source: count such statements apart). THE CARD IS WHAT COUNTS. Prove the row's statement (the work); the ties are given (YtghagepgphaboaaDoorTie.lean); close each card by the builder's one call (the guide's Derived/Test/ToyasCard.lean, 'card_holds'). Laid BY PROGRAM, IN A SANDBOX (cutbox-door.mjs). By AI agents, Wed Nov 11 2026. No macro, syntax, notation, axiom, sorry.
-/
import Derived.Test.YtghagepgphaboaaDoorRows
import GoSem.ClaimSeven
namespace Go.Proofs.YtghagepgphaboaaDoor
namespace Rows

/-- THE TIED CARD OF 'chantrylaw15.UpdatePuts'. -/
def updatePutsCard : Claim7 := { stood := { row := updatePutsRow, standIns := [], harness := (true, "4251c3bb078d7ead3c4459935fca39f7f175d5b54bbe9d1aeaf340ce93b5f147"), looks := false }, kinds := [], alts := [], laidByText := true, laidKinds := [.data], laidTests := true, laidLooks := .later }
def UpdatePutsCardSaid : Prop := Claim7.holds Tryd.pinned (.plain (OpenSpec.ofChange updatePutsSpec)) updatePutsCard

/-- THE TIED CARD OF 'chantrylaw15.UpdateGets'. -/
def updateGetsCard : Claim7 := { stood := { row := updateGetsRow, standIns := [], harness := (true, "4251c3bb078d7ead3c4459935fca39f7f175d5b54bbe9d1aeaf340ce93b5f147"), looks := false }, kinds := [], alts := [], laidByText := true, laidKinds := [.data], laidTests := true, laidLooks := .later }
def UpdateGetsCardSaid : Prop := Claim7.holds Tryd.pinned (.plain (OpenSpec.ofChange updateGetsSpec)) updateGetsCard

/-- THE TIED CARD OF 'chantrylaw15.UpdateOne'. -/
def updateOneCard : Claim7 := { stood := { row := updateOneRow, standIns := [], harness := (true, "4251c3bb078d7ead3c4459935fca39f7f175d5b54bbe9d1aeaf340ce93b5f147"), looks := false }, kinds := [], alts := [], laidByText := true, laidKinds := [.data], laidTests := true, laidLooks := .later }
def UpdateOneCardSaid : Prop := Claim7.holds Tryd.pinned (.plain (OpenSpec.ofChange updateOneSpec)) updateOneCard

/-- THE SECOND FORM's CARD OF 'chantrylaw15.UpdatePuts'. -/
def updatePutsUptoCard : Claim7 := { stood := { row := updatePutsUptoRow, standIns := [], harness := (true, "4251c3bb078d7ead3c4459935fca39f7f175d5b54bbe9d1aeaf340ce93b5f147"), looks := false }, kinds := [], alts := [], laidByText := true, laidKinds := [.data], laidTests := true, laidLooks := .later }
def UpdatePutsUptoCardSaid : Prop := Claim7.holds Tryd.pinned (.plain (OpenSpec.upto updatePutsSpec)) updatePutsUptoCard

/-- THE SECOND FORM's CARD OF 'chantrylaw15.UpdateGets'. -/
def updateGetsUptoCard : Claim7 := { stood := { row := updateGetsUptoRow, standIns := [], harness := (true, "4251c3bb078d7ead3c4459935fca39f7f175d5b54bbe9d1aeaf340ce93b5f147"), looks := false }, kinds := [], alts := [], laidByText := true, laidKinds := [.data], laidTests := true, laidLooks := .later }
def UpdateGetsUptoCardSaid : Prop := Claim7.holds Tryd.pinned (.plain (OpenSpec.upto updateGetsSpec)) updateGetsUptoCard

/-- THE SECOND FORM's CARD OF 'chantrylaw15.UpdateOne'. -/
def updateOneUptoCard : Claim7 := { stood := { row := updateOneUptoRow, standIns := [], harness := (true, "4251c3bb078d7ead3c4459935fca39f7f175d5b54bbe9d1aeaf340ce93b5f147"), looks := false }, kinds := [], alts := [], laidByText := true, laidKinds := [.data], laidTests := true, laidLooks := .later }
def UpdateOneUptoCardSaid : Prop := Claim7.holds Tryd.pinned (.plain (OpenSpec.upto updateOneSpec)) updateOneUptoCard
end Rows
end Go.Proofs.YtghagepgphaboaaDoor
