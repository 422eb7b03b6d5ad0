/-
  No cell of these rows narrows 'for every input' (looked for: loops, veiled, ifaces, maps, wideKeys, modest, calm, conditions, laid).
  DERIVED. THE GIVEN ROWS OF THIS SEAT. 3 by the template 'for every input the law returns true; each argument reads behind the call as it read before'; 0 by the template 'total and deterministic' (their statements: YtpaegpjgegcdeaaTotals.lean).
  GIVEN WITH THE SEED: the statements are not yours to turn. If you find one false, say at which input.
  Laid BY PROGRAM, IN A SANDBOX (cutbox-rows.mjs): the forced cells as the released guide's own fill.sh prints them over the translation 17bfb66c643f7870… (all of the seat's roots in one cut). By AI agents, Wed Nov 11 2026. No macro, syntax, notation, axiom, sorry.
-/
import Derived.Test.YtpaegpjgegcdeaaChecked
import GoSem.Claim
import GoSem.ClaimJoined
import GoSem.ClaimMapViews
import Derived.JoinedTies
import Derived.KernelRfl
namespace Go.Proofs.Ytpaegpjgegcdeaa
/- THE CELL 'sum', in the pinned program and in every row, IS THE sha256 OF THE DUMP (.gsa) THAT YtpaegpjgegcdeaaProg.lean LOADS. Nothing in Lean hashes anything: it is a label: what it is worth is what the hold of that sum in a sandbox is worth. -/
noncomputable def Try.pinned : Pinned := { name := "ytpaegpjgegcdeaa", sum := "17bfb66c643f787036892d435dc38e4c826d02e18c64fc170770cbc1d977026a", checked := Try.checked }
namespace Rows
def none {H : Type} : Left H := { results := [], args := [] }

/-- 'chantrylaw19.CounterAdds': WHATEVER THE INPUT: true; the input reads as it did. -/
def counterAddsSpec : ChangeSpec := { name := "counterAdds", fn := fun _ => fun
  | [d1, d2] => { results := [.lit (.bool true)], args := [d1, d2] }
  | _ => none }
def counterAddsRow : OpenClaim := { program := "ytpaegpjgegcdeaa", sum := "17bfb66c643f787036892d435dc38e4c826d02e18c64fc170770cbc1d977026a", func := "chantry/chantrylaw19.CounterAdds", spec := "counterAdds", unfollowed := true, recurses := true, apart := false }
def CounterAddsSaid : Prop := counterAddsRow.holds Try.pinned (OpenSpec.ofChange counterAddsSpec)

/-- ITS FALSE NEIGHBOUR: 'it returns false'. Refute it at one input. -/
def counterAddsWrong : ChangeSpec := { name := "counterAdds", fn := fun _ => fun
  | [d1, d2] => { results := [.lit (.bool false)], args := [d1, d2] }
  | _ => none }
def CounterAddsWrongFalsely : Prop := counterAddsRow.holds Try.pinned (OpenSpec.ofChange counterAddsWrong)

/-- 'chantrylaw19.CounterLoads': WHATEVER THE INPUT: true; the input reads as it did. -/
def counterLoadsSpec : ChangeSpec := { name := "counterLoads", fn := fun _ => fun
  | [d1, d2] => { results := [.lit (.bool true)], args := [d1, d2] }
  | _ => none }
def counterLoadsRow : OpenClaim := { program := "ytpaegpjgegcdeaa", sum := "17bfb66c643f787036892d435dc38e4c826d02e18c64fc170770cbc1d977026a", func := "chantry/chantrylaw19.CounterLoads", spec := "counterLoads", unfollowed := true, recurses := true, apart := false }
def CounterLoadsSaid : Prop := counterLoadsRow.holds Try.pinned (OpenSpec.ofChange counterLoadsSpec)

/-- ITS FALSE NEIGHBOUR: 'it returns false'. Refute it at one input. -/
def counterLoadsWrong : ChangeSpec := { name := "counterLoads", fn := fun _ => fun
  | [d1, d2] => { results := [.lit (.bool false)], args := [d1, d2] }
  | _ => none }
def CounterLoadsWrongFalsely : Prop := counterLoadsRow.holds Try.pinned (OpenSpec.ofChange counterLoadsWrong)

/-- 'chantrylaw19.CounterTurns': WHATEVER THE INPUT: true; the input reads as it did. -/
def counterTurnsSpec : ChangeSpec := { name := "counterTurns", fn := fun _ => fun
  | [d1, d2] => { results := [.lit (.bool true)], args := [d1, d2] }
  | _ => none }
def counterTurnsRow : OpenClaim := { program := "ytpaegpjgegcdeaa", sum := "17bfb66c643f787036892d435dc38e4c826d02e18c64fc170770cbc1d977026a", func := "chantry/chantrylaw19.CounterTurns", spec := "counterTurns", unfollowed := true, recurses := true, apart := false }
def CounterTurnsSaid : Prop := counterTurnsRow.holds Try.pinned (OpenSpec.ofChange counterTurnsSpec)

/-- ITS FALSE NEIGHBOUR: 'it returns false'. Refute it at one input. -/
def counterTurnsWrong : ChangeSpec := { name := "counterTurns", fn := fun _ => fun
  | [d1, d2] => { results := [.lit (.bool false)], args := [d1, d2] }
  | _ => none }
def CounterTurnsWrongFalsely : Prop := counterTurnsRow.holds Try.pinned (OpenSpec.ofChange counterTurnsWrong)

/- THE SECOND FORM. 'bulk': how many values and letters a reading holds, each counted each time it is reached (what is shared counts as often as it is met; a slice's spare places count too). A statement '..UptoSaid' is the law's where the arguments, and the package variables that the reading takes, are together of bulk at most 1048576: NARROWER than '..Said'. Prove '..Said' where nothing that the law and all that it calls make is longer than what came in: it says more and counts as full. Else prove '..UptoSaid'. A law counts once. -/
mutual
def uptoBulk {H : Type} : DataW H → Nat
  | .lit (.string bytes) => bytes.length + 1
  | .lit _ => 1
  | .nil => 1
  | .ptr d => uptoBulk d + 1
  | .slice elems spare => uptoBulkAll elems + uptoBulkAll spare + 1
  | .agg parts => uptoBulkAll parts + 1
  | .iface _ d => uptoBulk d + 1
  | .map entries => uptoBulkEntries entries + 1
  | .held _ => 1
def uptoBulkAll {H : Type} : List (DataW H) → Nat
  | [] => 0
  | d :: r => uptoBulk d + uptoBulkAll r
def uptoBulkEntries {H : Type} : List (Lit × DataW H) → Nat
  | [] => 0
  | x :: r => uptoBulkEntry x + uptoBulkEntries r
def uptoBulkEntry {H : Type} : Lit × DataW H → Nat
  | (.string bytes, d) => bytes.length + uptoBulk d + 1
  | (_, d) => uptoBulk d + 1
 end
def uptoSmall : (H : Type) → List (DataW H) → Bool := fun _ ds => decide (uptoBulkAll ds ≤ 1048576)
def OpenSpec.upto (s : _root_.Go.ChangeSpec) : _root_.Go.OpenSpec := { _root_.Go.OpenSpec.ofChange s with cond := some uptoSmall }

/-- 'chantrylaw19.CounterAdds', WHERE WHAT IT READS IS OF BULK AT MOST 1048576: true; the input reads as it did. -/
def counterAddsUptoRow : OpenClaim := { program := "ytpaegpjgegcdeaa", sum := "17bfb66c643f787036892d435dc38e4c826d02e18c64fc170770cbc1d977026a", func := "chantry/chantrylaw19.CounterAdds", spec := "counterAdds", unfollowed := true, recurses := true, apart := false, narrowed := true }
def CounterAddsUptoSaid : Prop := counterAddsUptoRow.holds Try.pinned (OpenSpec.upto counterAddsSpec)

/-- 'chantrylaw19.CounterLoads', WHERE WHAT IT READS IS OF BULK AT MOST 1048576: true; the input reads as it did. -/
def counterLoadsUptoRow : OpenClaim := { program := "ytpaegpjgegcdeaa", sum := "17bfb66c643f787036892d435dc38e4c826d02e18c64fc170770cbc1d977026a", func := "chantry/chantrylaw19.CounterLoads", spec := "counterLoads", unfollowed := true, recurses := true, apart := false, narrowed := true }
def CounterLoadsUptoSaid : Prop := counterLoadsUptoRow.holds Try.pinned (OpenSpec.upto counterLoadsSpec)

/-- 'chantrylaw19.CounterTurns', WHERE WHAT IT READS IS OF BULK AT MOST 1048576: true; the input reads as it did. -/
def counterTurnsUptoRow : OpenClaim := { program := "ytpaegpjgegcdeaa", sum := "17bfb66c643f787036892d435dc38e4c826d02e18c64fc170770cbc1d977026a", func := "chantry/chantrylaw19.CounterTurns", spec := "counterTurns", unfollowed := true, recurses := true, apart := false, narrowed := true }
def CounterTurnsUptoSaid : Prop := counterTurnsUptoRow.holds Try.pinned (OpenSpec.upto counterTurnsSpec)

end Rows
end Go.Proofs.Ytpaegpjgegcdeaa
