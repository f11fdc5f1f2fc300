/-
  No cell of these rows narrows 'for every input' (looked for: loops, veiled, ifaces, maps, wideKeys, modest, calm, conditions, laid).
  DERIVED. THE GIVEN ROWS OF THIS SEAT. 9 by the template 'for every input the law returns true; each argument reads behind the call as it read before'; 0 by the template 'total and deterministic' (their statements: YtpgkhmjlbaoagaaTotals.lean).
  GIVEN WITH THE SEED: the statements are not yours to turn. If you find one false, say at which input.
  Laid BY PROGRAM, IN A SANDBOX (cutbox-rows.mjs): the forced cells as the released guide's own fill.sh prints them over the translation d45531e1ba813745… (all of the seat's roots in one cut). By AI agents, Wed Nov 11 2026. No macro, syntax, notation, axiom, sorry.
-/
import Derived.Test.YtpgkhmjlbaoagaaChecked
import GoSem.Claim
import GoSem.ClaimJoined
import GoSem.ClaimMapViews
import Derived.JoinedTies
import Derived.KernelRfl
namespace Go.Proofs.Ytpgkhmjlbaoagaa
/- THE CELL 'sum', in the pinned program and in every row, IS THE sha256 OF THE DUMP (.gsa) THAT YtpgkhmjlbaoagaaProg.lean LOADS. Nothing in Lean hashes anything: it is a label: what it is worth is what the hold of that sum in a sandbox is worth. -/
noncomputable def Try.pinned : Pinned := { name := "ytpgkhmjlbaoagaa", sum := "d45531e1ba813745faaa27ef0a0ec4526d2228c0bcaa832b81fb937ebf004ce3", checked := Try.checked }
namespace Rows
def none {H : Type} : Left H := { results := [], args := [] }

/-- 'seepagelaw13.GraphSurrounds': WHATEVER THE INPUT: true; the input reads as it did. -/
def graphSurroundsSpec : ChangeSpec := { name := "graphSurrounds", fn := fun _ => fun
  | [d1, d2, d3, d4] => { results := [.lit (.bool true)], args := [d1, d2, d3, d4] }
  | _ => none }
def graphSurroundsRow : OpenClaim := { program := "ytpgkhmjlbaoagaa", sum := "d45531e1ba813745faaa27ef0a0ec4526d2228c0bcaa832b81fb937ebf004ce3", func := "seepage/seepagelaw13.GraphSurrounds", spec := "graphSurrounds", inPlace := ["math/bits.Add64"], unfollowed := true, recurses := true, apart := false }
def GraphSurroundsSaid : Prop := graphSurroundsRow.holds Try.pinned (OpenSpec.ofChange graphSurroundsSpec)

/-- ITS FALSE NEIGHBOUR: 'it returns false'. Refute it at one input. -/
def graphSurroundsWrong : ChangeSpec := { name := "graphSurrounds", fn := fun _ => fun
  | [d1, d2, d3, d4] => { results := [.lit (.bool false)], args := [d1, d2, d3, d4] }
  | _ => none }
def GraphSurroundsWrongFalsely : Prop := graphSurroundsRow.holds Try.pinned (OpenSpec.ofChange graphSurroundsWrong)

/-- 'seepagelaw13.GraphSteps': WHATEVER THE INPUT: true; the input reads as it did. -/
def graphStepsSpec : ChangeSpec := { name := "graphSteps", fn := fun _ => fun
  | [d1, d2] => { results := [.lit (.bool true)], args := [d1, d2] }
  | _ => none }
def graphStepsRow : OpenClaim := { program := "ytpgkhmjlbaoagaa", sum := "d45531e1ba813745faaa27ef0a0ec4526d2228c0bcaa832b81fb937ebf004ce3", func := "seepage/seepagelaw13.GraphSteps", spec := "graphSteps", inPlace := ["math/bits.Add64"], unfollowed := true, recurses := true, apart := false }
def GraphStepsSaid : Prop := graphStepsRow.holds Try.pinned (OpenSpec.ofChange graphStepsSpec)

/-- ITS FALSE NEIGHBOUR: 'it returns false'. Refute it at one input. -/
def graphStepsWrong : ChangeSpec := { name := "graphSteps", fn := fun _ => fun
  | [d1, d2] => { results := [.lit (.bool false)], args := [d1, d2] }
  | _ => none }
def GraphStepsWrongFalsely : Prop := graphStepsRow.holds Try.pinned (OpenSpec.ofChange graphStepsWrong)

/-- 'seepagelaw13.GraphHands': WHATEVER THE INPUT: true; the input reads as it did. -/
def graphHandsSpec : ChangeSpec := { name := "graphHands", fn := fun _ => fun
  | [d] => { results := [.lit (.bool true)], args := [d] }
  | _ => none }
def graphHandsRow : OpenClaim := { program := "ytpgkhmjlbaoagaa", sum := "d45531e1ba813745faaa27ef0a0ec4526d2228c0bcaa832b81fb937ebf004ce3", func := "seepage/seepagelaw13.GraphHands", spec := "graphHands", inPlace := ["math/bits.Add64"], unfollowed := true, recurses := true, apart := false }
def GraphHandsSaid : Prop := graphHandsRow.holds Try.pinned (OpenSpec.ofChange graphHandsSpec)

/-- ITS FALSE NEIGHBOUR: 'it returns false'. Refute it at one input. -/
def graphHandsWrong : ChangeSpec := { name := "graphHands", fn := fun _ => fun
  | [d] => { results := [.lit (.bool false)], args := [d] }
  | _ => none }
def GraphHandsWrongFalsely : Prop := graphHandsRow.holds Try.pinned (OpenSpec.ofChange graphHandsWrong)

/-- 'seepagelaw13.GraphParts': WHATEVER THE INPUT: true; the input reads as it did. -/
def graphPartsSpec : ChangeSpec := { name := "graphParts", fn := fun _ => fun
  | [d1, d2] => { results := [.lit (.bool true)], args := [d1, d2] }
  | _ => none }
def graphPartsRow : OpenClaim := { program := "ytpgkhmjlbaoagaa", sum := "d45531e1ba813745faaa27ef0a0ec4526d2228c0bcaa832b81fb937ebf004ce3", func := "seepage/seepagelaw13.GraphParts", spec := "graphParts", inPlace := ["math/bits.Add64"], unfollowed := true, recurses := true, apart := false }
def GraphPartsSaid : Prop := graphPartsRow.holds Try.pinned (OpenSpec.ofChange graphPartsSpec)

/-- ITS FALSE NEIGHBOUR: 'it returns false'. Refute it at one input. -/
def graphPartsWrong : ChangeSpec := { name := "graphParts", fn := fun _ => fun
  | [d1, d2] => { results := [.lit (.bool false)], args := [d1, d2] }
  | _ => none }
def GraphPartsWrongFalsely : Prop := graphPartsRow.holds Try.pinned (OpenSpec.ofChange graphPartsWrong)

/-- 'seepagelaw13.GraphConnects': WHATEVER THE INPUT: true; the input reads as it did. -/
def graphConnectsSpec : ChangeSpec := { name := "graphConnects", fn := fun _ => fun
  | [d1, d2, d3] => { results := [.lit (.bool true)], args := [d1, d2, d3] }
  | _ => none }
def graphConnectsRow : OpenClaim := { program := "ytpgkhmjlbaoagaa", sum := "d45531e1ba813745faaa27ef0a0ec4526d2228c0bcaa832b81fb937ebf004ce3", func := "seepage/seepagelaw13.GraphConnects", spec := "graphConnects", inPlace := ["math/bits.Add64"], unfollowed := true, recurses := true, apart := false }
def GraphConnectsSaid : Prop := graphConnectsRow.holds Try.pinned (OpenSpec.ofChange graphConnectsSpec)

/-- ITS FALSE NEIGHBOUR: 'it returns false'. Refute it at one input. -/
def graphConnectsWrong : ChangeSpec := { name := "graphConnects", fn := fun _ => fun
  | [d1, d2, d3] => { results := [.lit (.bool false)], args := [d1, d2, d3] }
  | _ => none }
def GraphConnectsWrongFalsely : Prop := graphConnectsRow.holds Try.pinned (OpenSpec.ofChange graphConnectsWrong)

/-- 'seepagelaw13.GraphCuts': WHATEVER THE INPUT: true; the input reads as it did. -/
def graphCutsSpec : ChangeSpec := { name := "graphCuts", fn := fun _ => fun
  | [d1, d2, d3] => { results := [.lit (.bool true)], args := [d1, d2, d3] }
  | _ => none }
def graphCutsRow : OpenClaim := { program := "ytpgkhmjlbaoagaa", sum := "d45531e1ba813745faaa27ef0a0ec4526d2228c0bcaa832b81fb937ebf004ce3", func := "seepage/seepagelaw13.GraphCuts", spec := "graphCuts", inPlace := ["math/bits.Add64"], unfollowed := true, recurses := true, apart := false }
def GraphCutsSaid : Prop := graphCutsRow.holds Try.pinned (OpenSpec.ofChange graphCutsSpec)

/-- ITS FALSE NEIGHBOUR: 'it returns false'. Refute it at one input. -/
def graphCutsWrong : ChangeSpec := { name := "graphCuts", fn := fun _ => fun
  | [d1, d2, d3] => { results := [.lit (.bool false)], args := [d1, d2, d3] }
  | _ => none }
def GraphCutsWrongFalsely : Prop := graphCutsRow.holds Try.pinned (OpenSpec.ofChange graphCutsWrong)

/-- 'seepagelaw13.GraphNests': WHATEVER THE INPUT: true; the input reads as it did. -/
def graphNestsSpec : ChangeSpec := { name := "graphNests", fn := fun _ => fun
  | [d1, d2, d3] => { results := [.lit (.bool true)], args := [d1, d2, d3] }
  | _ => none }
def graphNestsRow : OpenClaim := { program := "ytpgkhmjlbaoagaa", sum := "d45531e1ba813745faaa27ef0a0ec4526d2228c0bcaa832b81fb937ebf004ce3", func := "seepage/seepagelaw13.GraphNests", spec := "graphNests", inPlace := ["math/bits.Add64"], unfollowed := true, recurses := true, apart := false }
def GraphNestsSaid : Prop := graphNestsRow.holds Try.pinned (OpenSpec.ofChange graphNestsSpec)

/-- ITS FALSE NEIGHBOUR: 'it returns false'. Refute it at one input. -/
def graphNestsWrong : ChangeSpec := { name := "graphNests", fn := fun _ => fun
  | [d1, d2, d3] => { results := [.lit (.bool false)], args := [d1, d2, d3] }
  | _ => none }
def GraphNestsWrongFalsely : Prop := graphNestsRow.holds Try.pinned (OpenSpec.ofChange graphNestsWrong)

/-- 'seepagelaw13.GraphNil': WHATEVER THE INPUT: true; the input reads as it did. -/
def graphNilSpec : ChangeSpec := { name := "graphNil", fn := fun _ => fun
  | [d1, d2] => { results := [.lit (.bool true)], args := [d1, d2] }
  | _ => none }
def graphNilRow : OpenClaim := { program := "ytpgkhmjlbaoagaa", sum := "d45531e1ba813745faaa27ef0a0ec4526d2228c0bcaa832b81fb937ebf004ce3", func := "seepage/seepagelaw13.GraphNil", spec := "graphNil", inPlace := ["math/bits.Add64"], unfollowed := true, recurses := true, apart := false }
def GraphNilSaid : Prop := graphNilRow.holds Try.pinned (OpenSpec.ofChange graphNilSpec)

/-- ITS FALSE NEIGHBOUR: 'it returns false'. Refute it at one input. -/
def graphNilWrong : ChangeSpec := { name := "graphNil", fn := fun _ => fun
  | [d1, d2] => { results := [.lit (.bool false)], args := [d1, d2] }
  | _ => none }
def GraphNilWrongFalsely : Prop := graphNilRow.holds Try.pinned (OpenSpec.ofChange graphNilWrong)

/-- 'seepagelaw13.GraphKnown': WHATEVER THE INPUT: true; the input reads as it did. -/
def graphKnownSpec : ChangeSpec := { name := "graphKnown", fn := fun _ => fun
  | [] => { results := [.lit (.bool true)], args := [] }
  | _ => none }
def graphKnownRow : OpenClaim := { program := "ytpgkhmjlbaoagaa", sum := "d45531e1ba813745faaa27ef0a0ec4526d2228c0bcaa832b81fb937ebf004ce3", func := "seepage/seepagelaw13.GraphKnown", spec := "graphKnown", inPlace := ["math/bits.Add64"], unfollowed := true, recurses := true, apart := false }
def GraphKnownSaid : Prop := graphKnownRow.holds Try.pinned (OpenSpec.ofChange graphKnownSpec)

/-- ITS FALSE NEIGHBOUR: 'it returns false'. Refute it at one input. -/
def graphKnownWrong : ChangeSpec := { name := "graphKnown", fn := fun _ => fun
  | [] => { results := [.lit (.bool false)], args := [] }
  | _ => none }
def GraphKnownWrongFalsely : Prop := graphKnownRow.holds Try.pinned (OpenSpec.ofChange graphKnownWrong)

/- THE SECOND FORM. 'bulk': how many values and letters a reading holds, each counted each time it is reached (what is shared counts as often as it is met; a slice's spare places count too). A statement '..UptoSaid' is the law's where the arguments, and the package variables that the reading takes, are together of bulk at most 1048576: NARROWER than '..Said'. Prove '..Said' where nothing that the law and all that it calls make is longer than what came in: it says more and counts as full. Else prove '..UptoSaid'. A law counts once. -/
mutual
def uptoBulk {H : Type} : DataW H → Nat
  | .lit (.string bytes) => bytes.length + 1
  | .lit _ => 1
  | .nil => 1
  | .ptr d => uptoBulk d + 1
  | .slice elems spare => uptoBulkAll elems + uptoBulkAll spare + 1
  | .agg parts => uptoBulkAll parts + 1
  | .iface _ d => uptoBulk d + 1
  | .map entries => uptoBulkEntries entries + 1
  | .held _ => 1
def uptoBulkAll {H : Type} : List (DataW H) → Nat
  | [] => 0
  | d :: r => uptoBulk d + uptoBulkAll r
def uptoBulkEntries {H : Type} : List (Lit × DataW H) → Nat
  | [] => 0
  | x :: r => uptoBulkEntry x + uptoBulkEntries r
def uptoBulkEntry {H : Type} : Lit × DataW H → Nat
  | (.string bytes, d) => bytes.length + uptoBulk d + 1
  | (_, d) => uptoBulk d + 1
 end
def uptoSmall : (H : Type) → List (DataW H) → Bool := fun _ ds => decide (uptoBulkAll ds ≤ 1048576)
def OpenSpec.upto (s : _root_.Go.ChangeSpec) : _root_.Go.OpenSpec := { _root_.Go.OpenSpec.ofChange s with cond := some uptoSmall }

/-- 'seepagelaw13.GraphSurrounds', WHERE WHAT IT READS IS OF BULK AT MOST 1048576: true; the input reads as it did. -/
def graphSurroundsUptoRow : OpenClaim := { program := "ytpgkhmjlbaoagaa", sum := "d45531e1ba813745faaa27ef0a0ec4526d2228c0bcaa832b81fb937ebf004ce3", func := "seepage/seepagelaw13.GraphSurrounds", spec := "graphSurrounds", inPlace := ["math/bits.Add64"], unfollowed := true, recurses := true, apart := false, narrowed := true }
def GraphSurroundsUptoSaid : Prop := graphSurroundsUptoRow.holds Try.pinned (OpenSpec.upto graphSurroundsSpec)

/-- 'seepagelaw13.GraphSteps', WHERE WHAT IT READS IS OF BULK AT MOST 1048576: true; the input reads as it did. -/
def graphStepsUptoRow : OpenClaim := { program := "ytpgkhmjlbaoagaa", sum := "d45531e1ba813745faaa27ef0a0ec4526d2228c0bcaa832b81fb937ebf004ce3", func := "seepage/seepagelaw13.GraphSteps", spec := "graphSteps", inPlace := ["math/bits.Add64"], unfollowed := true, recurses := true, apart := false, narrowed := true }
def GraphStepsUptoSaid : Prop := graphStepsUptoRow.holds Try.pinned (OpenSpec.upto graphStepsSpec)

/-- 'seepagelaw13.GraphHands', WHERE WHAT IT READS IS OF BULK AT MOST 1048576: true; the input reads as it did. -/
def graphHandsUptoRow : OpenClaim := { program := "ytpgkhmjlbaoagaa", sum := "d45531e1ba813745faaa27ef0a0ec4526d2228c0bcaa832b81fb937ebf004ce3", func := "seepage/seepagelaw13.GraphHands", spec := "graphHands", inPlace := ["math/bits.Add64"], unfollowed := true, recurses := true, apart := false, narrowed := true }
def GraphHandsUptoSaid : Prop := graphHandsUptoRow.holds Try.pinned (OpenSpec.upto graphHandsSpec)

/-- 'seepagelaw13.GraphParts', WHERE WHAT IT READS IS OF BULK AT MOST 1048576: true; the input reads as it did. -/
def graphPartsUptoRow : OpenClaim := { program := "ytpgkhmjlbaoagaa", sum := "d45531e1ba813745faaa27ef0a0ec4526d2228c0bcaa832b81fb937ebf004ce3", func := "seepage/seepagelaw13.GraphParts", spec := "graphParts", inPlace := ["math/bits.Add64"], unfollowed := true, recurses := true, apart := false, narrowed := true }
def GraphPartsUptoSaid : Prop := graphPartsUptoRow.holds Try.pinned (OpenSpec.upto graphPartsSpec)

/-- 'seepagelaw13.GraphConnects', WHERE WHAT IT READS IS OF BULK AT MOST 1048576: true; the input reads as it did. -/
def graphConnectsUptoRow : OpenClaim := { program := "ytpgkhmjlbaoagaa", sum := "d45531e1ba813745faaa27ef0a0ec4526d2228c0bcaa832b81fb937ebf004ce3", func := "seepage/seepagelaw13.GraphConnects", spec := "graphConnects", inPlace := ["math/bits.Add64"], unfollowed := true, recurses := true, apart := false, narrowed := true }
def GraphConnectsUptoSaid : Prop := graphConnectsUptoRow.holds Try.pinned (OpenSpec.upto graphConnectsSpec)

/-- 'seepagelaw13.GraphCuts', WHERE WHAT IT READS IS OF BULK AT MOST 1048576: true; the input reads as it did. -/
def graphCutsUptoRow : OpenClaim := { program := "ytpgkhmjlbaoagaa", sum := "d45531e1ba813745faaa27ef0a0ec4526d2228c0bcaa832b81fb937ebf004ce3", func := "seepage/seepagelaw13.GraphCuts", spec := "graphCuts", inPlace := ["math/bits.Add64"], unfollowed := true, recurses := true, apart := false, narrowed := true }
def GraphCutsUptoSaid : Prop := graphCutsUptoRow.holds Try.pinned (OpenSpec.upto graphCutsSpec)

/-- 'seepagelaw13.GraphNests', WHERE WHAT IT READS IS OF BULK AT MOST 1048576: true; the input reads as it did. -/
def graphNestsUptoRow : OpenClaim := { program := "ytpgkhmjlbaoagaa", sum := "d45531e1ba813745faaa27ef0a0ec4526d2228c0bcaa832b81fb937ebf004ce3", func := "seepage/seepagelaw13.GraphNests", spec := "graphNests", inPlace := ["math/bits.Add64"], unfollowed := true, recurses := true, apart := false, narrowed := true }
def GraphNestsUptoSaid : Prop := graphNestsUptoRow.holds Try.pinned (OpenSpec.upto graphNestsSpec)

/-- 'seepagelaw13.GraphNil', WHERE WHAT IT READS IS OF BULK AT MOST 1048576: true; the input reads as it did. -/
def graphNilUptoRow : OpenClaim := { program := "ytpgkhmjlbaoagaa", sum := "d45531e1ba813745faaa27ef0a0ec4526d2228c0bcaa832b81fb937ebf004ce3", func := "seepage/seepagelaw13.GraphNil", spec := "graphNil", inPlace := ["math/bits.Add64"], unfollowed := true, recurses := true, apart := false, narrowed := true }
def GraphNilUptoSaid : Prop := graphNilUptoRow.holds Try.pinned (OpenSpec.upto graphNilSpec)

/-- 'seepagelaw13.GraphKnown', WHERE WHAT IT READS IS OF BULK AT MOST 1048576: true; the input reads as it did. -/
def graphKnownUptoRow : OpenClaim := { program := "ytpgkhmjlbaoagaa", sum := "d45531e1ba813745faaa27ef0a0ec4526d2228c0bcaa832b81fb937ebf004ce3", func := "seepage/seepagelaw13.GraphKnown", spec := "graphKnown", inPlace := ["math/bits.Add64"], unfollowed := true, recurses := true, apart := false, narrowed := true }
def GraphKnownUptoSaid : Prop := graphKnownUptoRow.holds Try.pinned (OpenSpec.upto graphKnownSpec)

end Rows
end Go.Proofs.Ytpgkhmjlbaoagaa
