/-
  DERIVED. GIVEN WITH THE SEED: THE CARDS: each row of YtcgjjhnlhcbceaaDoorRows.lean that lists a variable, with what it lists TIED to the program's text (the seventh form; the later family's looks); each row that meets fmt, with fmt's text TOLD by the authors' own Lean function (tested against real Go, not proved from fmt's source: count such statements apart). THE CARD IS WHAT COUNTS. Prove the row's statement (the work); the ties are given (YtcgjjhnlhcbceaaDoorTie.lean); close each card by the builder's one call (the guide's Derived/Test/ToyasCard.lean, 'card_holds'). Laid BY PROGRAM, IN A SANDBOX (cutbox-door.mjs). By AI agents, Wed Nov 11 2026. No macro, syntax, notation, axiom, sorry.
-/
import Derived.Test.YtcgjjhnlhcbceaaDoorRows
import GoSem.ClaimSeven
namespace Go.Proofs.YtcgjjhnlhcbceaaDoor
namespace Rows

/-- THE TIED CARD OF 'chantrylaw04.IdsLists'. -/
def idsListsCard : Claim7 := { stood := { row := idsListsRow, standIns := [], harness := (true, "855dd5e0e1cb3c70d261f0c2e77f46dc0436057ddc43bef7a5048b3fa5a0f2b2"), looks := false }, kinds := [], alts := [], laidByText := true, laidKinds := [.data], laidTests := true, laidLooks := .later }
def IdsListsCardSaid : Prop := Claim7.holds Tryd.pinned (.plain (OpenSpec.ofChange idsListsSpec)) idsListsCard

/-- THE TIED CARD OF 'chantrylaw04.IdsTwo'. -/
def idsTwoCard : Claim7 := { stood := { row := idsTwoRow, standIns := [], harness := (true, "855dd5e0e1cb3c70d261f0c2e77f46dc0436057ddc43bef7a5048b3fa5a0f2b2"), looks := false }, kinds := [], alts := [], laidByText := true, laidKinds := [.data], laidTests := true, laidLooks := .later }
def IdsTwoCardSaid : Prop := Claim7.holds Tryd.pinned (.plain (OpenSpec.ofChange idsTwoSpec)) idsTwoCard

/-- THE TIED CARD OF 'chantrylaw04.IdsHex'. -/
def idsHexCard : Claim7 := { stood := { row := idsHexRow, standIns := [], harness := (true, "855dd5e0e1cb3c70d261f0c2e77f46dc0436057ddc43bef7a5048b3fa5a0f2b2"), looks := false }, kinds := [], alts := [], laidByText := true, laidKinds := [.data], laidTests := true, laidLooks := .later }
def IdsHexCardSaid : Prop := Claim7.holds Tryd.pinned (.plain (OpenSpec.ofChange idsHexSpec)) idsHexCard

/-- THE TIED CARD OF 'chantrylaw04.IdsSets'. -/
def idsSetsCard : Claim7 := { stood := { row := idsSetsRow, standIns := [], harness := (true, "855dd5e0e1cb3c70d261f0c2e77f46dc0436057ddc43bef7a5048b3fa5a0f2b2"), looks := false }, kinds := [], alts := [], laidByText := true, laidKinds := [.data], laidTests := true, laidLooks := .later }
def IdsSetsCardSaid : Prop := Claim7.holds Tryd.pinned (.plain (OpenSpec.ofChange idsSetsSpec)) idsSetsCard

/-- THE SECOND FORM's CARD OF 'chantrylaw04.IdsLists'. -/
def idsListsUptoCard : Claim7 := { stood := { row := idsListsUptoRow, standIns := [], harness := (true, "855dd5e0e1cb3c70d261f0c2e77f46dc0436057ddc43bef7a5048b3fa5a0f2b2"), looks := false }, kinds := [], alts := [], laidByText := true, laidKinds := [.data], laidTests := true, laidLooks := .later }
def IdsListsUptoCardSaid : Prop := Claim7.holds Tryd.pinned (.plain (OpenSpec.upto idsListsSpec)) idsListsUptoCard

/-- THE SECOND FORM's CARD OF 'chantrylaw04.IdsTwo'. -/
def idsTwoUptoCard : Claim7 := { stood := { row := idsTwoUptoRow, standIns := [], harness := (true, "855dd5e0e1cb3c70d261f0c2e77f46dc0436057ddc43bef7a5048b3fa5a0f2b2"), looks := false }, kinds := [], alts := [], laidByText := true, laidKinds := [.data], laidTests := true, laidLooks := .later }
def IdsTwoUptoCardSaid : Prop := Claim7.holds Tryd.pinned (.plain (OpenSpec.upto idsTwoSpec)) idsTwoUptoCard

/-- THE SECOND FORM's CARD OF 'chantrylaw04.IdsHex'. -/
def idsHexUptoCard : Claim7 := { stood := { row := idsHexUptoRow, standIns := [], harness := (true, "855dd5e0e1cb3c70d261f0c2e77f46dc0436057ddc43bef7a5048b3fa5a0f2b2"), looks := false }, kinds := [], alts := [], laidByText := true, laidKinds := [.data], laidTests := true, laidLooks := .later }
def IdsHexUptoCardSaid : Prop := Claim7.holds Tryd.pinned (.plain (OpenSpec.upto idsHexSpec)) idsHexUptoCard

/-- THE SECOND FORM's CARD OF 'chantrylaw04.IdsSets'. -/
def idsSetsUptoCard : Claim7 := { stood := { row := idsSetsUptoRow, standIns := [], harness := (true, "855dd5e0e1cb3c70d261f0c2e77f46dc0436057ddc43bef7a5048b3fa5a0f2b2"), looks := false }, kinds := [], alts := [], laidByText := true, laidKinds := [.data], laidTests := true, laidLooks := .later }
def IdsSetsUptoCardSaid : Prop := Claim7.holds Tryd.pinned (.plain (OpenSpec.upto idsSetsSpec)) idsSetsUptoCard
end Rows
end Go.Proofs.YtcgjjhnlhcbceaaDoor
