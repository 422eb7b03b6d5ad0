/-
  No cell of these rows narrows 'for every input' (looked for: loops, veiled, ifaces, maps, wideKeys, modest, calm, conditions, laid).
  DERIVED. THE GIVEN ROWS OF THIS SEAT. 3 by the template 'for every input the law returns true; each argument reads behind the call as it read before'; 0 by the template 'total and deterministic' (their statements: YtlcaopfmlejmcaaTotals.lean).
  GIVEN WITH THE SEED: the statements are not yours to turn. If you find one false, say at which input.
  Laid BY PROGRAM, IN A SANDBOX (cutbox-rows.mjs): the forced cells as the released guide's own fill.sh prints them over the translation f8ca0dde433b64a7… (all of the seat's roots in one cut). By AI agents, Wed Nov 11 2026. No macro, syntax, notation, axiom, sorry.
-/
import Derived.Test.YtlcaopfmlejmcaaChecked
import GoSem.Claim
import GoSem.ClaimJoined
import GoSem.ClaimMapViews
import Derived.JoinedTies
import Derived.KernelRfl
namespace Go.Proofs.Ytlcaopfmlejmcaa
/- THE CELL 'sum', in the pinned program and in every row, IS THE sha256 OF THE DUMP (.gsa) THAT YtlcaopfmlejmcaaProg.lean LOADS. Nothing in Lean hashes anything: it is a label: what it is worth is what the hold of that sum in a sandbox is worth. -/
noncomputable def Try.pinned : Pinned := { name := "ytlcaopfmlejmcaa", sum := "f8ca0dde433b64a7f649d6a88011b341b6ecbda3ff0c3e2d3db3089f519ebee8", checked := Try.checked }
namespace Rows
def none {H : Type} : Left H := { results := [], args := [] }

/-- 'chantrylaw27.FenceMakes': WHATEVER THE INPUT: true; the input reads as it did. -/
def fenceMakesSpec : ChangeSpec := { name := "fenceMakes", fn := fun _ => fun
  | [d1, d2, d3] => { results := [.lit (.bool true)], args := [d1, d2, d3] }
  | _ => none }
def fenceMakesRow : OpenClaim := { program := "ytlcaopfmlejmcaa", sum := "f8ca0dde433b64a7f649d6a88011b341b6ecbda3ff0c3e2d3db3089f519ebee8", func := "chantry/chantrylaw27.FenceMakes", spec := "fenceMakes", unfollowed := true, recurses := true, apart := false }
def FenceMakesSaid : Prop := fenceMakesRow.holds Try.pinned (OpenSpec.ofChange fenceMakesSpec)

/-- ITS FALSE NEIGHBOUR: 'it returns false'. Refute it at one input. -/
def fenceMakesWrong : ChangeSpec := { name := "fenceMakes", fn := fun _ => fun
  | [d1, d2, d3] => { results := [.lit (.bool false)], args := [d1, d2, d3] }
  | _ => none }
def FenceMakesWrongFalsely : Prop := fenceMakesRow.holds Try.pinned (OpenSpec.ofChange fenceMakesWrong)

/-- 'chantrylaw27.FenceAsks': WHATEVER THE INPUT: true; the input reads as it did. -/
def fenceAsksSpec : ChangeSpec := { name := "fenceAsks", fn := fun _ => fun
  | [d1, d2, d3] => { results := [.lit (.bool true)], args := [d1, d2, d3] }
  | _ => none }
def fenceAsksRow : OpenClaim := { program := "ytlcaopfmlejmcaa", sum := "f8ca0dde433b64a7f649d6a88011b341b6ecbda3ff0c3e2d3db3089f519ebee8", func := "chantry/chantrylaw27.FenceAsks", spec := "fenceAsks", unfollowed := true, recurses := true, apart := false }
def FenceAsksSaid : Prop := fenceAsksRow.holds Try.pinned (OpenSpec.ofChange fenceAsksSpec)

/-- ITS FALSE NEIGHBOUR: 'it returns false'. Refute it at one input. -/
def fenceAsksWrong : ChangeSpec := { name := "fenceAsks", fn := fun _ => fun
  | [d1, d2, d3] => { results := [.lit (.bool false)], args := [d1, d2, d3] }
  | _ => none }
def FenceAsksWrongFalsely : Prop := fenceAsksRow.holds Try.pinned (OpenSpec.ofChange fenceAsksWrong)

/-- 'chantrylaw27.FenceNever': WHATEVER THE INPUT: true; the input reads as it did. -/
def fenceNeverSpec : ChangeSpec := { name := "fenceNever", fn := fun _ => fun
  | [d1, d2, d3] => { results := [.lit (.bool true)], args := [d1, d2, d3] }
  | _ => none }
def fenceNeverRow : OpenClaim := { program := "ytlcaopfmlejmcaa", sum := "f8ca0dde433b64a7f649d6a88011b341b6ecbda3ff0c3e2d3db3089f519ebee8", func := "chantry/chantrylaw27.FenceNever", spec := "fenceNever", unfollowed := true, recurses := true, apart := false }
def FenceNeverSaid : Prop := fenceNeverRow.holds Try.pinned (OpenSpec.ofChange fenceNeverSpec)

/-- ITS FALSE NEIGHBOUR: 'it returns false'. Refute it at one input. -/
def fenceNeverWrong : ChangeSpec := { name := "fenceNever", fn := fun _ => fun
  | [d1, d2, d3] => { results := [.lit (.bool false)], args := [d1, d2, d3] }
  | _ => none }
def FenceNeverWrongFalsely : Prop := fenceNeverRow.holds Try.pinned (OpenSpec.ofChange fenceNeverWrong)

/- THE SECOND FORM. 'bulk': how many values and letters a reading holds, each counted each time it is reached (what is shared counts as often as it is met; a slice's spare places count too). A statement '..UptoSaid' is the law's where the arguments, and the package variables that the reading takes, are together of bulk at most 1048576: NARROWER than '..Said'. Prove '..Said' where nothing that the law and all that it calls make is longer than what came in: it says more and counts as full. Else prove '..UptoSaid'. A law counts once. -/
mutual
def uptoBulk {H : Type} : DataW H → Nat
  | .lit (.string bytes) => bytes.length + 1
  | .lit _ => 1
  | .nil => 1
  | .ptr d => uptoBulk d + 1
  | .slice elems spare => uptoBulkAll elems + uptoBulkAll spare + 1
  | .agg parts => uptoBulkAll parts + 1
  | .iface _ d => uptoBulk d + 1
  | .map entries => uptoBulkEntries entries + 1
  | .held _ => 1
def uptoBulkAll {H : Type} : List (DataW H) → Nat
  | [] => 0
  | d :: r => uptoBulk d + uptoBulkAll r
def uptoBulkEntries {H : Type} : List (Lit × DataW H) → Nat
  | [] => 0
  | x :: r => uptoBulkEntry x + uptoBulkEntries r
def uptoBulkEntry {H : Type} : Lit × DataW H → Nat
  | (.string bytes, d) => bytes.length + uptoBulk d + 1
  | (_, d) => uptoBulk d + 1
 end
def uptoSmall : (H : Type) → List (DataW H) → Bool := fun _ ds => decide (uptoBulkAll ds ≤ 1048576)
def OpenSpec.upto (s : _root_.Go.ChangeSpec) : _root_.Go.OpenSpec := { _root_.Go.OpenSpec.ofChange s with cond := some uptoSmall }

/-- 'chantrylaw27.FenceMakes', WHERE WHAT IT READS IS OF BULK AT MOST 1048576: true; the input reads as it did. -/
def fenceMakesUptoRow : OpenClaim := { program := "ytlcaopfmlejmcaa", sum := "f8ca0dde433b64a7f649d6a88011b341b6ecbda3ff0c3e2d3db3089f519ebee8", func := "chantry/chantrylaw27.FenceMakes", spec := "fenceMakes", unfollowed := true, recurses := true, apart := false, narrowed := true }
def FenceMakesUptoSaid : Prop := fenceMakesUptoRow.holds Try.pinned (OpenSpec.upto fenceMakesSpec)

/-- 'chantrylaw27.FenceAsks', WHERE WHAT IT READS IS OF BULK AT MOST 1048576: true; the input reads as it did. -/
def fenceAsksUptoRow : OpenClaim := { program := "ytlcaopfmlejmcaa", sum := "f8ca0dde433b64a7f649d6a88011b341b6ecbda3ff0c3e2d3db3089f519ebee8", func := "chantry/chantrylaw27.FenceAsks", spec := "fenceAsks", unfollowed := true, recurses := true, apart := false, narrowed := true }
def FenceAsksUptoSaid : Prop := fenceAsksUptoRow.holds Try.pinned (OpenSpec.upto fenceAsksSpec)

/-- 'chantrylaw27.FenceNever', WHERE WHAT IT READS IS OF BULK AT MOST 1048576: true; the input reads as it did. -/
def fenceNeverUptoRow : OpenClaim := { program := "ytlcaopfmlejmcaa", sum := "f8ca0dde433b64a7f649d6a88011b341b6ecbda3ff0c3e2d3db3089f519ebee8", func := "chantry/chantrylaw27.FenceNever", spec := "fenceNever", unfollowed := true, recurses := true, apart := false, narrowed := true }
def FenceNeverUptoSaid : Prop := fenceNeverUptoRow.holds Try.pinned (OpenSpec.upto fenceNeverSpec)

end Rows
end Go.Proofs.Ytlcaopfmlejmcaa
