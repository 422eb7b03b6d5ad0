/-
  DERIVED. GIVEN WITH THE SEED: THE CARDS: each row of YtieojbgahkmhaaaDoorRows.lean that lists a variable, with what it lists TIED to the program's text (the seventh form; the later family's looks); each row that meets fmt, with fmt's text TOLD by the authors' own Lean function (tested against real Go, not proved from fmt's source: count such statements apart). THE CARD IS WHAT COUNTS. Prove the row's statement (the work); the ties are given (YtieojbgahkmhaaaDoorTie.lean); close each card by the builder's one call (the guide's Derived/Test/ToyasCard.lean, 'card_holds'). Laid BY PROGRAM, IN A SANDBOX (cutbox-door.mjs). By AI agents, Wed Nov 11 2026. No macro, syntax, notation, axiom, sorry.
-/
import Derived.Test.YtieojbgahkmhaaaDoorRows
import GoSem.ClaimSeven
namespace Go.Proofs.YtieojbgahkmhaaaDoor
namespace Rows

/-- THE TIED CARD OF 'chantrylaw14.OpPuts'. -/
def opPutsCard : Claim7 := { stood := { row := opPutsRow, standIns := [], harness := (true, "26d974007b24112c4924cc8c9dd48b28cd6cf7b91831052b5eafc14ab8561908"), looks := false }, kinds := [], alts := [], laidByText := true, laidKinds := [.data, .data, .data], laidTests := true, laidLooks := .later }
def OpPutsCardSaid : Prop := Claim7.holds Tryd.pinned (.plain (OpenSpec.ofChange opPutsSpec)) opPutsCard

/-- THE TIED CARD OF 'chantrylaw14.OpGets'. -/
def opGetsCard : Claim7 := { stood := { row := opGetsRow, standIns := [], harness := (true, "26d974007b24112c4924cc8c9dd48b28cd6cf7b91831052b5eafc14ab8561908"), looks := false }, kinds := [], alts := [], laidByText := true, laidKinds := [.data, .data, .data], laidTests := true, laidLooks := .later }
def OpGetsCardSaid : Prop := Claim7.holds Tryd.pinned (.plain (OpenSpec.ofChange opGetsSpec)) opGetsCard

/-- THE TIED CARD OF 'chantrylaw14.OpShows'. -/
def opShowsCard : Claim7 := { stood := { row := opShowsRow, standIns := [], harness := (true, "26d974007b24112c4924cc8c9dd48b28cd6cf7b91831052b5eafc14ab8561908"), looks := false }, kinds := [], alts := [], laidByText := true, laidKinds := [.data, .data, .data], laidTests := true, laidLooks := .later }
def OpShowsCardSaid : Prop := Claim7.holds Tryd.pinned (.plain (OpenSpec.ofChange opShowsSpec)) opShowsCard

/-- THE SECOND FORM's CARD OF 'chantrylaw14.OpPuts'. -/
def opPutsUptoCard : Claim7 := { stood := { row := opPutsUptoRow, standIns := [], harness := (true, "26d974007b24112c4924cc8c9dd48b28cd6cf7b91831052b5eafc14ab8561908"), looks := false }, kinds := [], alts := [], laidByText := true, laidKinds := [.data, .data, .data], laidTests := true, laidLooks := .later }
def OpPutsUptoCardSaid : Prop := Claim7.holds Tryd.pinned (.plain (OpenSpec.upto opPutsSpec)) opPutsUptoCard

/-- THE SECOND FORM's CARD OF 'chantrylaw14.OpGets'. -/
def opGetsUptoCard : Claim7 := { stood := { row := opGetsUptoRow, standIns := [], harness := (true, "26d974007b24112c4924cc8c9dd48b28cd6cf7b91831052b5eafc14ab8561908"), looks := false }, kinds := [], alts := [], laidByText := true, laidKinds := [.data, .data, .data], laidTests := true, laidLooks := .later }
def OpGetsUptoCardSaid : Prop := Claim7.holds Tryd.pinned (.plain (OpenSpec.upto opGetsSpec)) opGetsUptoCard

/-- THE SECOND FORM's CARD OF 'chantrylaw14.OpShows'. -/
def opShowsUptoCard : Claim7 := { stood := { row := opShowsUptoRow, standIns := [], harness := (true, "26d974007b24112c4924cc8c9dd48b28cd6cf7b91831052b5eafc14ab8561908"), looks := false }, kinds := [], alts := [], laidByText := true, laidKinds := [.data, .data, .data], laidTests := true, laidLooks := .later }
def OpShowsUptoCardSaid : Prop := Claim7.holds Tryd.pinned (.plain (OpenSpec.upto opShowsSpec)) opShowsUptoCard
end Rows
end Go.Proofs.YtieojbgahkmhaaaDoor
