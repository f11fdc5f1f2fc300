/-
  No cell of these rows narrows 'for every input' (looked for: loops, veiled, ifaces, maps, wideKeys, modest, calm, conditions, laid).
  DERIVED. THE GIVEN ROWS OF THIS SEAT. 8 by the template 'for every input the law returns true; each argument reads behind the call as it read before'; 0 by the template 'total and deterministic' (their statements: YtiijhppffboogaaTotals.lean).
  GIVEN WITH THE SEED: the statements are not yours to turn. If you find one false, say at which input.
  Laid BY PROGRAM, IN A SANDBOX (cutbox-rows.mjs): the forced cells as the released guide's own fill.sh prints them over the translation 7723f69f88f6a467… (all of the seat's roots in one cut). By AI agents, Wed Nov 11 2026. No macro, syntax, notation, axiom, sorry.
-/
import Derived.Test.YtiijhppffboogaaChecked
import GoSem.Claim
import GoSem.ClaimJoined
import GoSem.ClaimMapViews
import Derived.JoinedTies
import Derived.KernelRfl
namespace Go.Proofs.Ytiijhppffboogaa
/- THE CELL 'sum', in the pinned program and in every row, IS THE sha256 OF THE DUMP (.gsa) THAT YtiijhppffboogaaProg.lean LOADS. Nothing in Lean hashes anything: it is a label: what it is worth is what the hold of that sum in a sandbox is worth. -/
noncomputable def Try.pinned : Pinned := { name := "ytiijhppffboogaa", sum := "7723f69f88f6a46740feeea417661cd041f66bf0e8ae95a6847c20a1b4307894", checked := Try.checked }
namespace Rows
def none {H : Type} : Left H := { results := [], args := [] }

/-- 'seepagelaw08.DsuPaths': WHATEVER THE INPUT: true; the input reads as it did. -/
def dsuPathsSpec : ChangeSpec := { name := "dsuPaths", fn := fun _ => fun
  | [d1, d2, d3] => { results := [.lit (.bool true)], args := [d1, d2, d3] }
  | _ => none }
def dsuPathsRow : OpenClaim := { program := "ytiijhppffboogaa", sum := "7723f69f88f6a46740feeea417661cd041f66bf0e8ae95a6847c20a1b4307894", func := "seepage/seepagelaw08.DsuPaths", spec := "dsuPaths", apart := false }
def DsuPathsSaid : Prop := dsuPathsRow.holds Try.pinned (OpenSpec.ofChange dsuPathsSpec)

/-- ITS FALSE NEIGHBOUR: 'it returns false'. Refute it at one input. -/
def dsuPathsWrong : ChangeSpec := { name := "dsuPaths", fn := fun _ => fun
  | [d1, d2, d3] => { results := [.lit (.bool false)], args := [d1, d2, d3] }
  | _ => none }
def DsuPathsWrongFalsely : Prop := dsuPathsRow.holds Try.pinned (OpenSpec.ofChange dsuPathsWrong)

/-- 'seepagelaw08.DsuLabels': WHATEVER THE INPUT: true; the input reads as it did. -/
def dsuLabelsSpec : ChangeSpec := { name := "dsuLabels", fn := fun _ => fun
  | [d1, d2] => { results := [.lit (.bool true)], args := [d1, d2] }
  | _ => none }
def dsuLabelsRow : OpenClaim := { program := "ytiijhppffboogaa", sum := "7723f69f88f6a46740feeea417661cd041f66bf0e8ae95a6847c20a1b4307894", func := "seepage/seepagelaw08.DsuLabels", spec := "dsuLabels", apart := false }
def DsuLabelsSaid : Prop := dsuLabelsRow.holds Try.pinned (OpenSpec.ofChange dsuLabelsSpec)

/-- ITS FALSE NEIGHBOUR: 'it returns false'. Refute it at one input. -/
def dsuLabelsWrong : ChangeSpec := { name := "dsuLabels", fn := fun _ => fun
  | [d1, d2] => { results := [.lit (.bool false)], args := [d1, d2] }
  | _ => none }
def DsuLabelsWrongFalsely : Prop := dsuLabelsRow.holds Try.pinned (OpenSpec.ofChange dsuLabelsWrong)

/-- 'seepagelaw08.DsuCopies': WHATEVER THE INPUT: true; the input reads as it did. -/
def dsuCopiesSpec : ChangeSpec := { name := "dsuCopies", fn := fun _ => fun
  | [d1, d2, d3] => { results := [.lit (.bool true)], args := [d1, d2, d3] }
  | _ => none }
def dsuCopiesRow : OpenClaim := { program := "ytiijhppffboogaa", sum := "7723f69f88f6a46740feeea417661cd041f66bf0e8ae95a6847c20a1b4307894", func := "seepage/seepagelaw08.DsuCopies", spec := "dsuCopies", apart := false }
def DsuCopiesSaid : Prop := dsuCopiesRow.holds Try.pinned (OpenSpec.ofChange dsuCopiesSpec)

/-- ITS FALSE NEIGHBOUR: 'it returns false'. Refute it at one input. -/
def dsuCopiesWrong : ChangeSpec := { name := "dsuCopies", fn := fun _ => fun
  | [d1, d2, d3] => { results := [.lit (.bool false)], args := [d1, d2, d3] }
  | _ => none }
def DsuCopiesWrongFalsely : Prop := dsuCopiesRow.holds Try.pinned (OpenSpec.ofChange dsuCopiesWrong)

/-- 'seepagelaw08.DsuCounts': WHATEVER THE INPUT: true; the input reads as it did. -/
def dsuCountsSpec : ChangeSpec := { name := "dsuCounts", fn := fun _ => fun
  | [d1, d2] => { results := [.lit (.bool true)], args := [d1, d2] }
  | _ => none }
def dsuCountsRow : OpenClaim := { program := "ytiijhppffboogaa", sum := "7723f69f88f6a46740feeea417661cd041f66bf0e8ae95a6847c20a1b4307894", func := "seepage/seepagelaw08.DsuCounts", spec := "dsuCounts", apart := false }
def DsuCountsSaid : Prop := dsuCountsRow.holds Try.pinned (OpenSpec.ofChange dsuCountsSpec)

/-- ITS FALSE NEIGHBOUR: 'it returns false'. Refute it at one input. -/
def dsuCountsWrong : ChangeSpec := { name := "dsuCounts", fn := fun _ => fun
  | [d1, d2] => { results := [.lit (.bool false)], args := [d1, d2] }
  | _ => none }
def DsuCountsWrongFalsely : Prop := dsuCountsRow.holds Try.pinned (OpenSpec.ofChange dsuCountsWrong)

/-- 'seepagelaw08.DsuOrder': WHATEVER THE INPUT: true; the input reads as it did. -/
def dsuOrderSpec : ChangeSpec := { name := "dsuOrder", fn := fun _ => fun
  | [d1, d2] => { results := [.lit (.bool true)], args := [d1, d2] }
  | _ => none }
def dsuOrderRow : OpenClaim := { program := "ytiijhppffboogaa", sum := "7723f69f88f6a46740feeea417661cd041f66bf0e8ae95a6847c20a1b4307894", func := "seepage/seepagelaw08.DsuOrder", spec := "dsuOrder", apart := false }
def DsuOrderSaid : Prop := dsuOrderRow.holds Try.pinned (OpenSpec.ofChange dsuOrderSpec)

/-- ITS FALSE NEIGHBOUR: 'it returns false'. Refute it at one input. -/
def dsuOrderWrong : ChangeSpec := { name := "dsuOrder", fn := fun _ => fun
  | [d1, d2] => { results := [.lit (.bool false)], args := [d1, d2] }
  | _ => none }
def DsuOrderWrongFalsely : Prop := dsuOrderRow.holds Try.pinned (OpenSpec.ofChange dsuOrderWrong)

/-- 'seepagelaw08.DsuNews': WHATEVER THE INPUT: true; the input reads as it did. -/
def dsuNewsSpec : ChangeSpec := { name := "dsuNews", fn := fun _ => fun
  | [d1, d2, d3] => { results := [.lit (.bool true)], args := [d1, d2, d3] }
  | _ => none }
def dsuNewsRow : OpenClaim := { program := "ytiijhppffboogaa", sum := "7723f69f88f6a46740feeea417661cd041f66bf0e8ae95a6847c20a1b4307894", func := "seepage/seepagelaw08.DsuNews", spec := "dsuNews", apart := false }
def DsuNewsSaid : Prop := dsuNewsRow.holds Try.pinned (OpenSpec.ofChange dsuNewsSpec)

/-- ITS FALSE NEIGHBOUR: 'it returns false'. Refute it at one input. -/
def dsuNewsWrong : ChangeSpec := { name := "dsuNews", fn := fun _ => fun
  | [d1, d2, d3] => { results := [.lit (.bool false)], args := [d1, d2, d3] }
  | _ => none }
def DsuNewsWrongFalsely : Prop := dsuNewsRow.holds Try.pinned (OpenSpec.ofChange dsuNewsWrong)

/-- 'seepagelaw08.DsuPlays': WHATEVER THE INPUT: true; the input reads as it did. -/
def dsuPlaysSpec : ChangeSpec := { name := "dsuPlays", fn := fun _ => fun
  | [d1, d2, d3, d4] => { results := [.lit (.bool true)], args := [d1, d2, d3, d4] }
  | _ => none }
def dsuPlaysRow : OpenClaim := { program := "ytiijhppffboogaa", sum := "7723f69f88f6a46740feeea417661cd041f66bf0e8ae95a6847c20a1b4307894", func := "seepage/seepagelaw08.DsuPlays", spec := "dsuPlays", apart := false }
def DsuPlaysSaid : Prop := dsuPlaysRow.holds Try.pinned (OpenSpec.ofChange dsuPlaysSpec)

/-- ITS FALSE NEIGHBOUR: 'it returns false'. Refute it at one input. -/
def dsuPlaysWrong : ChangeSpec := { name := "dsuPlays", fn := fun _ => fun
  | [d1, d2, d3, d4] => { results := [.lit (.bool false)], args := [d1, d2, d3, d4] }
  | _ => none }
def DsuPlaysWrongFalsely : Prop := dsuPlaysRow.holds Try.pinned (OpenSpec.ofChange dsuPlaysWrong)

/-- 'seepagelaw08.DsuNil': WHATEVER THE INPUT: true; the input reads as it did. -/
def dsuNilSpec : ChangeSpec := { name := "dsuNil", fn := fun _ => fun
  | [d1, d2] => { results := [.lit (.bool true)], args := [d1, d2] }
  | _ => none }
def dsuNilRow : OpenClaim := { program := "ytiijhppffboogaa", sum := "7723f69f88f6a46740feeea417661cd041f66bf0e8ae95a6847c20a1b4307894", func := "seepage/seepagelaw08.DsuNil", spec := "dsuNil", apart := false }
def DsuNilSaid : Prop := dsuNilRow.holds Try.pinned (OpenSpec.ofChange dsuNilSpec)

/-- ITS FALSE NEIGHBOUR: 'it returns false'. Refute it at one input. -/
def dsuNilWrong : ChangeSpec := { name := "dsuNil", fn := fun _ => fun
  | [d1, d2] => { results := [.lit (.bool false)], args := [d1, d2] }
  | _ => none }
def DsuNilWrongFalsely : Prop := dsuNilRow.holds Try.pinned (OpenSpec.ofChange dsuNilWrong)

/- THE SECOND FORM. 'bulk': how many values and letters a reading holds, each counted each time it is reached (what is shared counts as often as it is met; a slice's spare places count too). A statement '..UptoSaid' is the law's where the arguments, and the package variables that the reading takes, are together of bulk at most 1048576: NARROWER than '..Said'. Prove '..Said' where nothing that the law and all that it calls make is longer than what came in: it says more and counts as full. Else prove '..UptoSaid'. A law counts once. -/
mutual
def uptoBulk {H : Type} : DataW H → Nat
  | .lit (.string bytes) => bytes.length + 1
  | .lit _ => 1
  | .nil => 1
  | .ptr d => uptoBulk d + 1
  | .slice elems spare => uptoBulkAll elems + uptoBulkAll spare + 1
  | .agg parts => uptoBulkAll parts + 1
  | .iface _ d => uptoBulk d + 1
  | .map entries => uptoBulkEntries entries + 1
  | .held _ => 1
def uptoBulkAll {H : Type} : List (DataW H) → Nat
  | [] => 0
  | d :: r => uptoBulk d + uptoBulkAll r
def uptoBulkEntries {H : Type} : List (Lit × DataW H) → Nat
  | [] => 0
  | x :: r => uptoBulkEntry x + uptoBulkEntries r
def uptoBulkEntry {H : Type} : Lit × DataW H → Nat
  | (.string bytes, d) => bytes.length + uptoBulk d + 1
  | (_, d) => uptoBulk d + 1
 end
def uptoSmall : (H : Type) → List (DataW H) → Bool := fun _ ds => decide (uptoBulkAll ds ≤ 1048576)
def OpenSpec.upto (s : _root_.Go.ChangeSpec) : _root_.Go.OpenSpec := { _root_.Go.OpenSpec.ofChange s with cond := some uptoSmall }

/-- 'seepagelaw08.DsuPaths', WHERE WHAT IT READS IS OF BULK AT MOST 1048576: true; the input reads as it did. -/
def dsuPathsUptoRow : OpenClaim := { program := "ytiijhppffboogaa", sum := "7723f69f88f6a46740feeea417661cd041f66bf0e8ae95a6847c20a1b4307894", func := "seepage/seepagelaw08.DsuPaths", spec := "dsuPaths", apart := false, narrowed := true }
def DsuPathsUptoSaid : Prop := dsuPathsUptoRow.holds Try.pinned (OpenSpec.upto dsuPathsSpec)

/-- 'seepagelaw08.DsuLabels', WHERE WHAT IT READS IS OF BULK AT MOST 1048576: true; the input reads as it did. -/
def dsuLabelsUptoRow : OpenClaim := { program := "ytiijhppffboogaa", sum := "7723f69f88f6a46740feeea417661cd041f66bf0e8ae95a6847c20a1b4307894", func := "seepage/seepagelaw08.DsuLabels", spec := "dsuLabels", apart := false, narrowed := true }
def DsuLabelsUptoSaid : Prop := dsuLabelsUptoRow.holds Try.pinned (OpenSpec.upto dsuLabelsSpec)

/-- 'seepagelaw08.DsuCopies', WHERE WHAT IT READS IS OF BULK AT MOST 1048576: true; the input reads as it did. -/
def dsuCopiesUptoRow : OpenClaim := { program := "ytiijhppffboogaa", sum := "7723f69f88f6a46740feeea417661cd041f66bf0e8ae95a6847c20a1b4307894", func := "seepage/seepagelaw08.DsuCopies", spec := "dsuCopies", apart := false, narrowed := true }
def DsuCopiesUptoSaid : Prop := dsuCopiesUptoRow.holds Try.pinned (OpenSpec.upto dsuCopiesSpec)

/-- 'seepagelaw08.DsuCounts', WHERE WHAT IT READS IS OF BULK AT MOST 1048576: true; the input reads as it did. -/
def dsuCountsUptoRow : OpenClaim := { program := "ytiijhppffboogaa", sum := "7723f69f88f6a46740feeea417661cd041f66bf0e8ae95a6847c20a1b4307894", func := "seepage/seepagelaw08.DsuCounts", spec := "dsuCounts", apart := false, narrowed := true }
def DsuCountsUptoSaid : Prop := dsuCountsUptoRow.holds Try.pinned (OpenSpec.upto dsuCountsSpec)

/-- 'seepagelaw08.DsuOrder', WHERE WHAT IT READS IS OF BULK AT MOST 1048576: true; the input reads as it did. -/
def dsuOrderUptoRow : OpenClaim := { program := "ytiijhppffboogaa", sum := "7723f69f88f6a46740feeea417661cd041f66bf0e8ae95a6847c20a1b4307894", func := "seepage/seepagelaw08.DsuOrder", spec := "dsuOrder", apart := false, narrowed := true }
def DsuOrderUptoSaid : Prop := dsuOrderUptoRow.holds Try.pinned (OpenSpec.upto dsuOrderSpec)

/-- 'seepagelaw08.DsuNews', WHERE WHAT IT READS IS OF BULK AT MOST 1048576: true; the input reads as it did. -/
def dsuNewsUptoRow : OpenClaim := { program := "ytiijhppffboogaa", sum := "7723f69f88f6a46740feeea417661cd041f66bf0e8ae95a6847c20a1b4307894", func := "seepage/seepagelaw08.DsuNews", spec := "dsuNews", apart := false, narrowed := true }
def DsuNewsUptoSaid : Prop := dsuNewsUptoRow.holds Try.pinned (OpenSpec.upto dsuNewsSpec)

/-- 'seepagelaw08.DsuPlays', WHERE WHAT IT READS IS OF BULK AT MOST 1048576: true; the input reads as it did. -/
def dsuPlaysUptoRow : OpenClaim := { program := "ytiijhppffboogaa", sum := "7723f69f88f6a46740feeea417661cd041f66bf0e8ae95a6847c20a1b4307894", func := "seepage/seepagelaw08.DsuPlays", spec := "dsuPlays", apart := false, narrowed := true }
def DsuPlaysUptoSaid : Prop := dsuPlaysUptoRow.holds Try.pinned (OpenSpec.upto dsuPlaysSpec)

/-- 'seepagelaw08.DsuNil', WHERE WHAT IT READS IS OF BULK AT MOST 1048576: true; the input reads as it did. -/
def dsuNilUptoRow : OpenClaim := { program := "ytiijhppffboogaa", sum := "7723f69f88f6a46740feeea417661cd041f66bf0e8ae95a6847c20a1b4307894", func := "seepage/seepagelaw08.DsuNil", spec := "dsuNil", apart := false, narrowed := true }
def DsuNilUptoSaid : Prop := dsuNilUptoRow.holds Try.pinned (OpenSpec.upto dsuNilSpec)

end Rows
end Go.Proofs.Ytiijhppffboogaa
