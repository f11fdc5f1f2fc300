/-
  No cell of these rows narrows 'for every input' (looked for: loops, veiled, ifaces, maps, wideKeys, modest, calm, conditions, laid).
  DERIVED. THE GIVEN ROWS OF THIS SEAT. 11 by the template 'for every input the law returns true; each argument reads behind the call as it read before'; 0 by the template 'total and deterministic' (their statements: YtploneadcknkjaaTotals.lean).
  GIVEN WITH THE SEED: the statements are not yours to turn. If you find one false, say at which input.
  Laid BY PROGRAM, IN A SANDBOX (cutbox-rows.mjs): the forced cells as the released guide's own fill.sh prints them over the translation 281e56c3fcaefd08… (all of the seat's roots in one cut). By AI agents, Wed Nov 11 2026. No macro, syntax, notation, axiom, sorry.
-/
import Derived.Test.YtploneadcknkjaaChecked
import GoSem.Claim
import GoSem.ClaimJoined
import GoSem.ClaimMapViews
import Derived.JoinedTies
import Derived.KernelRfl
namespace Go.Proofs.Ytploneadcknkjaa
/- THE CELL 'sum', in the pinned program and in every row, IS THE sha256 OF THE DUMP (.gsa) THAT YtploneadcknkjaaProg.lean LOADS. Nothing in Lean hashes anything: it is a label: what it is worth is what the hold of that sum in a sandbox is worth. -/
noncomputable def Try.pinned : Pinned := { name := "ytploneadcknkjaa", sum := "281e56c3fcaefd0888b21a0d829d825d33029f307a3850cc8a57f258e9fb3419", checked := Try.checked }
namespace Rows
def none {H : Type} : Left H := { results := [], args := [] }

/-- 'seepagelaw29.LatticeTriangles': WHATEVER THE INPUT: true; the input reads as it did. -/
def latticeTrianglesSpec : ChangeSpec := { name := "latticeTriangles", fn := fun _ => fun
  | [d1, d2, d3, d4] => { results := [.lit (.bool true)], args := [d1, d2, d3, d4] }
  | _ => none }
def latticeTrianglesRow : OpenClaim := { program := "ytploneadcknkjaa", sum := "281e56c3fcaefd0888b21a0d829d825d33029f307a3850cc8a57f258e9fb3419", func := "seepage/seepagelaw29.LatticeTriangles", spec := "latticeTriangles", unfollowed := true, recurses := true, apart := false }
def LatticeTrianglesSaid : Prop := latticeTrianglesRow.holds Try.pinned (OpenSpec.ofChange latticeTrianglesSpec)

/-- ITS FALSE NEIGHBOUR: 'it returns false'. Refute it at one input. -/
def latticeTrianglesWrong : ChangeSpec := { name := "latticeTriangles", fn := fun _ => fun
  | [d1, d2, d3, d4] => { results := [.lit (.bool false)], args := [d1, d2, d3, d4] }
  | _ => none }
def LatticeTrianglesWrongFalsely : Prop := latticeTrianglesRow.holds Try.pinned (OpenSpec.ofChange latticeTrianglesWrong)

/-- 'seepagelaw29.LatticeTrees': WHATEVER THE INPUT: true; the input reads as it did. -/
def latticeTreesSpec : ChangeSpec := { name := "latticeTrees", fn := fun _ => fun
  | [d1, d2] => { results := [.lit (.bool true)], args := [d1, d2] }
  | _ => none }
def latticeTreesRow : OpenClaim := { program := "ytploneadcknkjaa", sum := "281e56c3fcaefd0888b21a0d829d825d33029f307a3850cc8a57f258e9fb3419", func := "seepage/seepagelaw29.LatticeTrees", spec := "latticeTrees", unfollowed := true, recurses := true, apart := false }
def LatticeTreesSaid : Prop := latticeTreesRow.holds Try.pinned (OpenSpec.ofChange latticeTreesSpec)

/-- ITS FALSE NEIGHBOUR: 'it returns false'. Refute it at one input. -/
def latticeTreesWrong : ChangeSpec := { name := "latticeTrees", fn := fun _ => fun
  | [d1, d2] => { results := [.lit (.bool false)], args := [d1, d2] }
  | _ => none }
def LatticeTreesWrongFalsely : Prop := latticeTreesRow.holds Try.pinned (OpenSpec.ofChange latticeTreesWrong)

/-- 'seepagelaw29.LatticeSquares': WHATEVER THE INPUT: true; the input reads as it did. -/
def latticeSquaresSpec : ChangeSpec := { name := "latticeSquares", fn := fun _ => fun
  | [d1, d2, d3, d4] => { results := [.lit (.bool true)], args := [d1, d2, d3, d4] }
  | _ => none }
def latticeSquaresRow : OpenClaim := { program := "ytploneadcknkjaa", sum := "281e56c3fcaefd0888b21a0d829d825d33029f307a3850cc8a57f258e9fb3419", func := "seepage/seepagelaw29.LatticeSquares", spec := "latticeSquares", unfollowed := true, recurses := true, apart := false }
def LatticeSquaresSaid : Prop := latticeSquaresRow.holds Try.pinned (OpenSpec.ofChange latticeSquaresSpec)

/-- ITS FALSE NEIGHBOUR: 'it returns false'. Refute it at one input. -/
def latticeSquaresWrong : ChangeSpec := { name := "latticeSquares", fn := fun _ => fun
  | [d1, d2, d3, d4] => { results := [.lit (.bool false)], args := [d1, d2, d3, d4] }
  | _ => none }
def LatticeSquaresWrongFalsely : Prop := latticeSquaresRow.holds Try.pinned (OpenSpec.ofChange latticeSquaresWrong)

/-- 'seepagelaw29.LatticeDegrees': WHATEVER THE INPUT: true; the input reads as it did. -/
def latticeDegreesSpec : ChangeSpec := { name := "latticeDegrees", fn := fun _ => fun
  | [d1, d2, d3, d4, d5] => { results := [.lit (.bool true)], args := [d1, d2, d3, d4, d5] }
  | _ => none }
def latticeDegreesRow : OpenClaim := { program := "ytploneadcknkjaa", sum := "281e56c3fcaefd0888b21a0d829d825d33029f307a3850cc8a57f258e9fb3419", func := "seepage/seepagelaw29.LatticeDegrees", spec := "latticeDegrees", unfollowed := true, recurses := true, apart := false }
def LatticeDegreesSaid : Prop := latticeDegreesRow.holds Try.pinned (OpenSpec.ofChange latticeDegreesSpec)

/-- ITS FALSE NEIGHBOUR: 'it returns false'. Refute it at one input. -/
def latticeDegreesWrong : ChangeSpec := { name := "latticeDegrees", fn := fun _ => fun
  | [d1, d2, d3, d4, d5] => { results := [.lit (.bool false)], args := [d1, d2, d3, d4, d5] }
  | _ => none }
def LatticeDegreesWrongFalsely : Prop := latticeDegreesRow.holds Try.pinned (OpenSpec.ofChange latticeDegreesWrong)

/-- 'seepagelaw29.LatticeOpens': WHATEVER THE INPUT: true; the input reads as it did. -/
def latticeOpensSpec : ChangeSpec := { name := "latticeOpens", fn := fun _ => fun
  | [d1, d2, d3, d4, d5] => { results := [.lit (.bool true)], args := [d1, d2, d3, d4, d5] }
  | _ => none }
def latticeOpensRow : OpenClaim := { program := "ytploneadcknkjaa", sum := "281e56c3fcaefd0888b21a0d829d825d33029f307a3850cc8a57f258e9fb3419", func := "seepage/seepagelaw29.LatticeOpens", spec := "latticeOpens", unfollowed := true, recurses := true, apart := false }
def LatticeOpensSaid : Prop := latticeOpensRow.holds Try.pinned (OpenSpec.ofChange latticeOpensSpec)

/-- ITS FALSE NEIGHBOUR: 'it returns false'. Refute it at one input. -/
def latticeOpensWrong : ChangeSpec := { name := "latticeOpens", fn := fun _ => fun
  | [d1, d2, d3, d4, d5] => { results := [.lit (.bool false)], args := [d1, d2, d3, d4, d5] }
  | _ => none }
def LatticeOpensWrongFalsely : Prop := latticeOpensRow.holds Try.pinned (OpenSpec.ofChange latticeOpensWrong)

/-- 'seepagelaw29.LatticePlaces': WHATEVER THE INPUT: true; the input reads as it did. -/
def latticePlacesSpec : ChangeSpec := { name := "latticePlaces", fn := fun _ => fun
  | [d1, d2, d3, d4, d5] => { results := [.lit (.bool true)], args := [d1, d2, d3, d4, d5] }
  | _ => none }
def latticePlacesRow : OpenClaim := { program := "ytploneadcknkjaa", sum := "281e56c3fcaefd0888b21a0d829d825d33029f307a3850cc8a57f258e9fb3419", func := "seepage/seepagelaw29.LatticePlaces", spec := "latticePlaces", unfollowed := true, recurses := true, apart := false }
def LatticePlacesSaid : Prop := latticePlacesRow.holds Try.pinned (OpenSpec.ofChange latticePlacesSpec)

/-- ITS FALSE NEIGHBOUR: 'it returns false'. Refute it at one input. -/
def latticePlacesWrong : ChangeSpec := { name := "latticePlaces", fn := fun _ => fun
  | [d1, d2, d3, d4, d5] => { results := [.lit (.bool false)], args := [d1, d2, d3, d4, d5] }
  | _ => none }
def LatticePlacesWrongFalsely : Prop := latticePlacesRow.holds Try.pinned (OpenSpec.ofChange latticePlacesWrong)

/-- 'seepagelaw29.LatticeReturns': WHATEVER THE INPUT: true; the input reads as it did. -/
def latticeReturnsSpec : ChangeSpec := { name := "latticeReturns", fn := fun _ => fun
  | [d1, d2, d3] => { results := [.lit (.bool true)], args := [d1, d2, d3] }
  | _ => none }
def latticeReturnsRow : OpenClaim := { program := "ytploneadcknkjaa", sum := "281e56c3fcaefd0888b21a0d829d825d33029f307a3850cc8a57f258e9fb3419", func := "seepage/seepagelaw29.LatticeReturns", spec := "latticeReturns", unfollowed := true, recurses := true, apart := false }
def LatticeReturnsSaid : Prop := latticeReturnsRow.holds Try.pinned (OpenSpec.ofChange latticeReturnsSpec)

/-- ITS FALSE NEIGHBOUR: 'it returns false'. Refute it at one input. -/
def latticeReturnsWrong : ChangeSpec := { name := "latticeReturns", fn := fun _ => fun
  | [d1, d2, d3] => { results := [.lit (.bool false)], args := [d1, d2, d3] }
  | _ => none }
def LatticeReturnsWrongFalsely : Prop := latticeReturnsRow.holds Try.pinned (OpenSpec.ofChange latticeReturnsWrong)

/-- 'seepagelaw29.LatticeCompletes': WHATEVER THE INPUT: true; the input reads as it did. -/
def latticeCompletesSpec : ChangeSpec := { name := "latticeCompletes", fn := fun _ => fun
  | [d] => { results := [.lit (.bool true)], args := [d] }
  | _ => none }
def latticeCompletesRow : OpenClaim := { program := "ytploneadcknkjaa", sum := "281e56c3fcaefd0888b21a0d829d825d33029f307a3850cc8a57f258e9fb3419", func := "seepage/seepagelaw29.LatticeCompletes", spec := "latticeCompletes", unfollowed := true, recurses := true, apart := false }
def LatticeCompletesSaid : Prop := latticeCompletesRow.holds Try.pinned (OpenSpec.ofChange latticeCompletesSpec)

/-- ITS FALSE NEIGHBOUR: 'it returns false'. Refute it at one input. -/
def latticeCompletesWrong : ChangeSpec := { name := "latticeCompletes", fn := fun _ => fun
  | [d] => { results := [.lit (.bool false)], args := [d] }
  | _ => none }
def LatticeCompletesWrongFalsely : Prop := latticeCompletesRow.holds Try.pinned (OpenSpec.ofChange latticeCompletesWrong)

/-- 'seepagelaw29.LatticeWeighs': WHATEVER THE INPUT: true; the input reads as it did. -/
def latticeWeighsSpec : ChangeSpec := { name := "latticeWeighs", fn := fun _ => fun
  | [d1, d2] => { results := [.lit (.bool true)], args := [d1, d2] }
  | _ => none }
def latticeWeighsRow : OpenClaim := { program := "ytploneadcknkjaa", sum := "281e56c3fcaefd0888b21a0d829d825d33029f307a3850cc8a57f258e9fb3419", func := "seepage/seepagelaw29.LatticeWeighs", spec := "latticeWeighs", unfollowed := true, recurses := true, apart := false }
def LatticeWeighsSaid : Prop := latticeWeighsRow.holds Try.pinned (OpenSpec.ofChange latticeWeighsSpec)

/-- ITS FALSE NEIGHBOUR: 'it returns false'. Refute it at one input. -/
def latticeWeighsWrong : ChangeSpec := { name := "latticeWeighs", fn := fun _ => fun
  | [d1, d2] => { results := [.lit (.bool false)], args := [d1, d2] }
  | _ => none }
def LatticeWeighsWrongFalsely : Prop := latticeWeighsRow.holds Try.pinned (OpenSpec.ofChange latticeWeighsWrong)

/-- 'seepagelaw29.LatticeKnown': WHATEVER THE INPUT: true; the input reads as it did. -/
def latticeKnownSpec : ChangeSpec := { name := "latticeKnown", fn := fun _ => fun
  | [] => { results := [.lit (.bool true)], args := [] }
  | _ => none }
def latticeKnownRow : OpenClaim := { program := "ytploneadcknkjaa", sum := "281e56c3fcaefd0888b21a0d829d825d33029f307a3850cc8a57f258e9fb3419", func := "seepage/seepagelaw29.LatticeKnown", spec := "latticeKnown", unfollowed := true, recurses := true, apart := false }
def LatticeKnownSaid : Prop := latticeKnownRow.holds Try.pinned (OpenSpec.ofChange latticeKnownSpec)

/-- ITS FALSE NEIGHBOUR: 'it returns false'. Refute it at one input. -/
def latticeKnownWrong : ChangeSpec := { name := "latticeKnown", fn := fun _ => fun
  | [] => { results := [.lit (.bool false)], args := [] }
  | _ => none }
def LatticeKnownWrongFalsely : Prop := latticeKnownRow.holds Try.pinned (OpenSpec.ofChange latticeKnownWrong)

/-- 'seepagelaw29.LatticeConnects': WHATEVER THE INPUT: true; the input reads as it did. -/
def latticeConnectsSpec : ChangeSpec := { name := "latticeConnects", fn := fun _ => fun
  | [d1, d2, d3, d4] => { results := [.lit (.bool true)], args := [d1, d2, d3, d4] }
  | _ => none }
def latticeConnectsRow : OpenClaim := { program := "ytploneadcknkjaa", sum := "281e56c3fcaefd0888b21a0d829d825d33029f307a3850cc8a57f258e9fb3419", func := "seepage/seepagelaw29.LatticeConnects", spec := "latticeConnects", unfollowed := true, recurses := true, apart := false }
def LatticeConnectsSaid : Prop := latticeConnectsRow.holds Try.pinned (OpenSpec.ofChange latticeConnectsSpec)

/-- ITS FALSE NEIGHBOUR: 'it returns false'. Refute it at one input. -/
def latticeConnectsWrong : ChangeSpec := { name := "latticeConnects", fn := fun _ => fun
  | [d1, d2, d3, d4] => { results := [.lit (.bool false)], args := [d1, d2, d3, d4] }
  | _ => none }
def LatticeConnectsWrongFalsely : Prop := latticeConnectsRow.holds Try.pinned (OpenSpec.ofChange latticeConnectsWrong)

/- THE SECOND FORM. 'bulk': how many values and letters a reading holds, each counted each time it is reached (what is shared counts as often as it is met; a slice's spare places count too). A statement '..UptoSaid' is the law's where the arguments, and the package variables that the reading takes, are together of bulk at most 1048576: NARROWER than '..Said'. Prove '..Said' where nothing that the law and all that it calls make is longer than what came in: it says more and counts as full. Else prove '..UptoSaid'. A law counts once. -/
mutual
def uptoBulk {H : Type} : DataW H → Nat
  | .lit (.string bytes) => bytes.length + 1
  | .lit _ => 1
  | .nil => 1
  | .ptr d => uptoBulk d + 1
  | .slice elems spare => uptoBulkAll elems + uptoBulkAll spare + 1
  | .agg parts => uptoBulkAll parts + 1
  | .iface _ d => uptoBulk d + 1
  | .map entries => uptoBulkEntries entries + 1
  | .held _ => 1
def uptoBulkAll {H : Type} : List (DataW H) → Nat
  | [] => 0
  | d :: r => uptoBulk d + uptoBulkAll r
def uptoBulkEntries {H : Type} : List (Lit × DataW H) → Nat
  | [] => 0
  | x :: r => uptoBulkEntry x + uptoBulkEntries r
def uptoBulkEntry {H : Type} : Lit × DataW H → Nat
  | (.string bytes, d) => bytes.length + uptoBulk d + 1
  | (_, d) => uptoBulk d + 1
 end
def uptoSmall : (H : Type) → List (DataW H) → Bool := fun _ ds => decide (uptoBulkAll ds ≤ 1048576)
def OpenSpec.upto (s : _root_.Go.ChangeSpec) : _root_.Go.OpenSpec := { _root_.Go.OpenSpec.ofChange s with cond := some uptoSmall }

/-- 'seepagelaw29.LatticeTriangles', WHERE WHAT IT READS IS OF BULK AT MOST 1048576: true; the input reads as it did. -/
def latticeTrianglesUptoRow : OpenClaim := { program := "ytploneadcknkjaa", sum := "281e56c3fcaefd0888b21a0d829d825d33029f307a3850cc8a57f258e9fb3419", func := "seepage/seepagelaw29.LatticeTriangles", spec := "latticeTriangles", unfollowed := true, recurses := true, apart := false, narrowed := true }
def LatticeTrianglesUptoSaid : Prop := latticeTrianglesUptoRow.holds Try.pinned (OpenSpec.upto latticeTrianglesSpec)

/-- 'seepagelaw29.LatticeTrees', WHERE WHAT IT READS IS OF BULK AT MOST 1048576: true; the input reads as it did. -/
def latticeTreesUptoRow : OpenClaim := { program := "ytploneadcknkjaa", sum := "281e56c3fcaefd0888b21a0d829d825d33029f307a3850cc8a57f258e9fb3419", func := "seepage/seepagelaw29.LatticeTrees", spec := "latticeTrees", unfollowed := true, recurses := true, apart := false, narrowed := true }
def LatticeTreesUptoSaid : Prop := latticeTreesUptoRow.holds Try.pinned (OpenSpec.upto latticeTreesSpec)

/-- 'seepagelaw29.LatticeSquares', WHERE WHAT IT READS IS OF BULK AT MOST 1048576: true; the input reads as it did. -/
def latticeSquaresUptoRow : OpenClaim := { program := "ytploneadcknkjaa", sum := "281e56c3fcaefd0888b21a0d829d825d33029f307a3850cc8a57f258e9fb3419", func := "seepage/seepagelaw29.LatticeSquares", spec := "latticeSquares", unfollowed := true, recurses := true, apart := false, narrowed := true }
def LatticeSquaresUptoSaid : Prop := latticeSquaresUptoRow.holds Try.pinned (OpenSpec.upto latticeSquaresSpec)

/-- 'seepagelaw29.LatticeDegrees', WHERE WHAT IT READS IS OF BULK AT MOST 1048576: true; the input reads as it did. -/
def latticeDegreesUptoRow : OpenClaim := { program := "ytploneadcknkjaa", sum := "281e56c3fcaefd0888b21a0d829d825d33029f307a3850cc8a57f258e9fb3419", func := "seepage/seepagelaw29.LatticeDegrees", spec := "latticeDegrees", unfollowed := true, recurses := true, apart := false, narrowed := true }
def LatticeDegreesUptoSaid : Prop := latticeDegreesUptoRow.holds Try.pinned (OpenSpec.upto latticeDegreesSpec)

/-- 'seepagelaw29.LatticeOpens', WHERE WHAT IT READS IS OF BULK AT MOST 1048576: true; the input reads as it did. -/
def latticeOpensUptoRow : OpenClaim := { program := "ytploneadcknkjaa", sum := "281e56c3fcaefd0888b21a0d829d825d33029f307a3850cc8a57f258e9fb3419", func := "seepage/seepagelaw29.LatticeOpens", spec := "latticeOpens", unfollowed := true, recurses := true, apart := false, narrowed := true }
def LatticeOpensUptoSaid : Prop := latticeOpensUptoRow.holds Try.pinned (OpenSpec.upto latticeOpensSpec)

/-- 'seepagelaw29.LatticePlaces', WHERE WHAT IT READS IS OF BULK AT MOST 1048576: true; the input reads as it did. -/
def latticePlacesUptoRow : OpenClaim := { program := "ytploneadcknkjaa", sum := "281e56c3fcaefd0888b21a0d829d825d33029f307a3850cc8a57f258e9fb3419", func := "seepage/seepagelaw29.LatticePlaces", spec := "latticePlaces", unfollowed := true, recurses := true, apart := false, narrowed := true }
def LatticePlacesUptoSaid : Prop := latticePlacesUptoRow.holds Try.pinned (OpenSpec.upto latticePlacesSpec)

/-- 'seepagelaw29.LatticeReturns', WHERE WHAT IT READS IS OF BULK AT MOST 1048576: true; the input reads as it did. -/
def latticeReturnsUptoRow : OpenClaim := { program := "ytploneadcknkjaa", sum := "281e56c3fcaefd0888b21a0d829d825d33029f307a3850cc8a57f258e9fb3419", func := "seepage/seepagelaw29.LatticeReturns", spec := "latticeReturns", unfollowed := true, recurses := true, apart := false, narrowed := true }
def LatticeReturnsUptoSaid : Prop := latticeReturnsUptoRow.holds Try.pinned (OpenSpec.upto latticeReturnsSpec)

/-- 'seepagelaw29.LatticeCompletes', WHERE WHAT IT READS IS OF BULK AT MOST 1048576: true; the input reads as it did. -/
def latticeCompletesUptoRow : OpenClaim := { program := "ytploneadcknkjaa", sum := "281e56c3fcaefd0888b21a0d829d825d33029f307a3850cc8a57f258e9fb3419", func := "seepage/seepagelaw29.LatticeCompletes", spec := "latticeCompletes", unfollowed := true, recurses := true, apart := false, narrowed := true }
def LatticeCompletesUptoSaid : Prop := latticeCompletesUptoRow.holds Try.pinned (OpenSpec.upto latticeCompletesSpec)

/-- 'seepagelaw29.LatticeWeighs', WHERE WHAT IT READS IS OF BULK AT MOST 1048576: true; the input reads as it did. -/
def latticeWeighsUptoRow : OpenClaim := { program := "ytploneadcknkjaa", sum := "281e56c3fcaefd0888b21a0d829d825d33029f307a3850cc8a57f258e9fb3419", func := "seepage/seepagelaw29.LatticeWeighs", spec := "latticeWeighs", unfollowed := true, recurses := true, apart := false, narrowed := true }
def LatticeWeighsUptoSaid : Prop := latticeWeighsUptoRow.holds Try.pinned (OpenSpec.upto latticeWeighsSpec)

/-- 'seepagelaw29.LatticeKnown', WHERE WHAT IT READS IS OF BULK AT MOST 1048576: true; the input reads as it did. -/
def latticeKnownUptoRow : OpenClaim := { program := "ytploneadcknkjaa", sum := "281e56c3fcaefd0888b21a0d829d825d33029f307a3850cc8a57f258e9fb3419", func := "seepage/seepagelaw29.LatticeKnown", spec := "latticeKnown", unfollowed := true, recurses := true, apart := false, narrowed := true }
def LatticeKnownUptoSaid : Prop := latticeKnownUptoRow.holds Try.pinned (OpenSpec.upto latticeKnownSpec)

/-- 'seepagelaw29.LatticeConnects', WHERE WHAT IT READS IS OF BULK AT MOST 1048576: true; the input reads as it did. -/
def latticeConnectsUptoRow : OpenClaim := { program := "ytploneadcknkjaa", sum := "281e56c3fcaefd0888b21a0d829d825d33029f307a3850cc8a57f258e9fb3419", func := "seepage/seepagelaw29.LatticeConnects", spec := "latticeConnects", unfollowed := true, recurses := true, apart := false, narrowed := true }
def LatticeConnectsUptoSaid : Prop := latticeConnectsUptoRow.holds Try.pinned (OpenSpec.upto latticeConnectsSpec)

end Rows
end Go.Proofs.Ytploneadcknkjaa
