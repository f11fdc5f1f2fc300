/-
  No cell of these rows narrows 'for every input' (looked for: loops, veiled, ifaces, maps, wideKeys, modest, calm, conditions, laid).
  DERIVED. THE GIVEN ROWS OF THIS SEAT. 10 by the template 'for every input the law returns true; each argument reads behind the call as it read before'; 0 by the template 'total and deterministic' (their statements: YtnkkdoookhhhaaaTotals.lean).
  GIVEN WITH THE SEED: the statements are not yours to turn. If you find one false, say at which input.
  Laid BY PROGRAM, IN A SANDBOX (cutbox-rows.mjs): the forced cells as the released guide's own fill.sh prints them over the translation a78c12ad833c1daf… (all of the seat's roots in one cut). By AI agents, Wed Nov 11 2026. No macro, syntax, notation, axiom, sorry.
-/
import Derived.Test.YtnkkdoookhhhaaaChecked
import GoSem.Claim
import GoSem.ClaimJoined
import GoSem.ClaimMapViews
import Derived.JoinedTies
import Derived.KernelRfl
namespace Go.Proofs.Ytnkkdoookhhhaaa
/- THE CELL 'sum', in the pinned program and in every row, IS THE sha256 OF THE DUMP (.gsa) THAT YtnkkdoookhhhaaaProg.lean LOADS. Nothing in Lean hashes anything: it is a label: what it is worth is what the hold of that sum in a sandbox is worth. -/
noncomputable def Try.pinned : Pinned := { name := "ytnkkdoookhhhaaa", sum := "a78c12ad833c1daf9c3cde38a27f5519830eecb649c6dee5b2207a7ac6b1ca3e", checked := Try.checked }
namespace Rows
def none {H : Type} : Left H := { results := [], args := [] }

/-- 'seepagelaw30.WrappingFirsts': WHATEVER THE INPUT: true; the input reads as it did. -/
def wrappingFirstsSpec : ChangeSpec := { name := "wrappingFirsts", fn := fun _ => fun
  | [d1, d2, d3] => { results := [.lit (.bool true)], args := [d1, d2, d3] }
  | _ => none }
def wrappingFirstsRow : OpenClaim := { program := "ytnkkdoookhhhaaa", sum := "a78c12ad833c1daf9c3cde38a27f5519830eecb649c6dee5b2207a7ac6b1ca3e", func := "seepage/seepagelaw30.WrappingFirsts", spec := "wrappingFirsts", unfollowed := true, recurses := true, apart := false }
def WrappingFirstsSaid : Prop := wrappingFirstsRow.holds Try.pinned (OpenSpec.ofChange wrappingFirstsSpec)

/-- ITS FALSE NEIGHBOUR: 'it returns false'. Refute it at one input. -/
def wrappingFirstsWrong : ChangeSpec := { name := "wrappingFirsts", fn := fun _ => fun
  | [d1, d2, d3] => { results := [.lit (.bool false)], args := [d1, d2, d3] }
  | _ => none }
def WrappingFirstsWrongFalsely : Prop := wrappingFirstsRow.holds Try.pinned (OpenSpec.ofChange wrappingFirstsWrong)

/-- 'seepagelaw30.WrappingTurn': WHATEVER THE INPUT: true; the input reads as it did. -/
def wrappingTurnSpec : ChangeSpec := { name := "wrappingTurn", fn := fun _ => fun
  | [d1, d2, d3, d4, d5] => { results := [.lit (.bool true)], args := [d1, d2, d3, d4, d5] }
  | _ => none }
def wrappingTurnRow : OpenClaim := { program := "ytnkkdoookhhhaaa", sum := "a78c12ad833c1daf9c3cde38a27f5519830eecb649c6dee5b2207a7ac6b1ca3e", func := "seepage/seepagelaw30.WrappingTurn", spec := "wrappingTurn", unfollowed := true, recurses := true, apart := false }
def WrappingTurnSaid : Prop := wrappingTurnRow.holds Try.pinned (OpenSpec.ofChange wrappingTurnSpec)

/-- ITS FALSE NEIGHBOUR: 'it returns false'. Refute it at one input. -/
def wrappingTurnWrong : ChangeSpec := { name := "wrappingTurn", fn := fun _ => fun
  | [d1, d2, d3, d4, d5] => { results := [.lit (.bool false)], args := [d1, d2, d3, d4, d5] }
  | _ => none }
def WrappingTurnWrongFalsely : Prop := wrappingTurnRow.holds Try.pinned (OpenSpec.ofChange wrappingTurnWrong)

/-- 'seepagelaw30.WrappingFew': WHATEVER THE INPUT: true; the input reads as it did. -/
def wrappingFewSpec : ChangeSpec := { name := "wrappingFew", fn := fun _ => fun
  | [d1, d2, d3] => { results := [.lit (.bool true)], args := [d1, d2, d3] }
  | _ => none }
def wrappingFewRow : OpenClaim := { program := "ytnkkdoookhhhaaa", sum := "a78c12ad833c1daf9c3cde38a27f5519830eecb649c6dee5b2207a7ac6b1ca3e", func := "seepage/seepagelaw30.WrappingFew", spec := "wrappingFew", unfollowed := true, recurses := true, apart := false }
def WrappingFewSaid : Prop := wrappingFewRow.holds Try.pinned (OpenSpec.ofChange wrappingFewSpec)

/-- ITS FALSE NEIGHBOUR: 'it returns false'. Refute it at one input. -/
def wrappingFewWrong : ChangeSpec := { name := "wrappingFew", fn := fun _ => fun
  | [d1, d2, d3] => { results := [.lit (.bool false)], args := [d1, d2, d3] }
  | _ => none }
def WrappingFewWrongFalsely : Prop := wrappingFewRow.holds Try.pinned (OpenSpec.ofChange wrappingFewWrong)

/-- 'seepagelaw30.WrappingFirst': WHATEVER THE INPUT: true; the input reads as it did. -/
def wrappingFirstSpec : ChangeSpec := { name := "wrappingFirst", fn := fun _ => fun
  | [d1, d2, d3, d4] => { results := [.lit (.bool true)], args := [d1, d2, d3, d4] }
  | _ => none }
def wrappingFirstRow : OpenClaim := { program := "ytnkkdoookhhhaaa", sum := "a78c12ad833c1daf9c3cde38a27f5519830eecb649c6dee5b2207a7ac6b1ca3e", func := "seepage/seepagelaw30.WrappingFirst", spec := "wrappingFirst", unfollowed := true, recurses := true, apart := false }
def WrappingFirstSaid : Prop := wrappingFirstRow.holds Try.pinned (OpenSpec.ofChange wrappingFirstSpec)

/-- ITS FALSE NEIGHBOUR: 'it returns false'. Refute it at one input. -/
def wrappingFirstWrong : ChangeSpec := { name := "wrappingFirst", fn := fun _ => fun
  | [d1, d2, d3, d4] => { results := [.lit (.bool false)], args := [d1, d2, d3, d4] }
  | _ => none }
def WrappingFirstWrongFalsely : Prop := wrappingFirstRow.holds Try.pinned (OpenSpec.ofChange wrappingFirstWrong)

/-- 'seepagelaw30.WrappingNews': WHATEVER THE INPUT: true; the input reads as it did. -/
def wrappingNewsSpec : ChangeSpec := { name := "wrappingNews", fn := fun _ => fun
  | [d1, d2, d3, d4] => { results := [.lit (.bool true)], args := [d1, d2, d3, d4] }
  | _ => none }
def wrappingNewsRow : OpenClaim := { program := "ytnkkdoookhhhaaa", sum := "a78c12ad833c1daf9c3cde38a27f5519830eecb649c6dee5b2207a7ac6b1ca3e", func := "seepage/seepagelaw30.WrappingNews", spec := "wrappingNews", unfollowed := true, recurses := true, apart := false }
def WrappingNewsSaid : Prop := wrappingNewsRow.holds Try.pinned (OpenSpec.ofChange wrappingNewsSpec)

/-- ITS FALSE NEIGHBOUR: 'it returns false'. Refute it at one input. -/
def wrappingNewsWrong : ChangeSpec := { name := "wrappingNews", fn := fun _ => fun
  | [d1, d2, d3, d4] => { results := [.lit (.bool false)], args := [d1, d2, d3, d4] }
  | _ => none }
def WrappingNewsWrongFalsely : Prop := wrappingNewsRow.holds Try.pinned (OpenSpec.ofChange wrappingNewsWrong)

/-- 'seepagelaw30.WrappingPlays': WHATEVER THE INPUT: true; the input reads as it did. -/
def wrappingPlaysSpec : ChangeSpec := { name := "wrappingPlays", fn := fun _ => fun
  | [d1, d2, d3, d4, d5] => { results := [.lit (.bool true)], args := [d1, d2, d3, d4, d5] }
  | _ => none }
def wrappingPlaysRow : OpenClaim := { program := "ytnkkdoookhhhaaa", sum := "a78c12ad833c1daf9c3cde38a27f5519830eecb649c6dee5b2207a7ac6b1ca3e", func := "seepage/seepagelaw30.WrappingPlays", spec := "wrappingPlays", unfollowed := true, recurses := true, apart := false }
def WrappingPlaysSaid : Prop := wrappingPlaysRow.holds Try.pinned (OpenSpec.ofChange wrappingPlaysSpec)

/-- ITS FALSE NEIGHBOUR: 'it returns false'. Refute it at one input. -/
def wrappingPlaysWrong : ChangeSpec := { name := "wrappingPlays", fn := fun _ => fun
  | [d1, d2, d3, d4, d5] => { results := [.lit (.bool false)], args := [d1, d2, d3, d4, d5] }
  | _ => none }
def WrappingPlaysWrongFalsely : Prop := wrappingPlaysRow.holds Try.pinned (OpenSpec.ofChange wrappingPlaysWrong)

/-- 'seepagelaw30.WrappingNil': WHATEVER THE INPUT: true; the input reads as it did. -/
def wrappingNilSpec : ChangeSpec := { name := "wrappingNil", fn := fun _ => fun
  | [d1, d2, d3] => { results := [.lit (.bool true)], args := [d1, d2, d3] }
  | _ => none }
def wrappingNilRow : OpenClaim := { program := "ytnkkdoookhhhaaa", sum := "a78c12ad833c1daf9c3cde38a27f5519830eecb649c6dee5b2207a7ac6b1ca3e", func := "seepage/seepagelaw30.WrappingNil", spec := "wrappingNil", unfollowed := true, recurses := true, apart := false }
def WrappingNilSaid : Prop := wrappingNilRow.holds Try.pinned (OpenSpec.ofChange wrappingNilSpec)

/-- ITS FALSE NEIGHBOUR: 'it returns false'. Refute it at one input. -/
def wrappingNilWrong : ChangeSpec := { name := "wrappingNil", fn := fun _ => fun
  | [d1, d2, d3] => { results := [.lit (.bool false)], args := [d1, d2, d3] }
  | _ => none }
def WrappingNilWrongFalsely : Prop := wrappingNilRow.holds Try.pinned (OpenSpec.ofChange wrappingNilWrong)

/-- 'seepagelaw30.WrappingOrder': WHATEVER THE INPUT: true; the input reads as it did. -/
def wrappingOrderSpec : ChangeSpec := { name := "wrappingOrder", fn := fun _ => fun
  | [d1, d2, d3, d4, d5] => { results := [.lit (.bool true)], args := [d1, d2, d3, d4, d5] }
  | _ => none }
def wrappingOrderRow : OpenClaim := { program := "ytnkkdoookhhhaaa", sum := "a78c12ad833c1daf9c3cde38a27f5519830eecb649c6dee5b2207a7ac6b1ca3e", func := "seepage/seepagelaw30.WrappingOrder", spec := "wrappingOrder", unfollowed := true, recurses := true, apart := false }
def WrappingOrderSaid : Prop := wrappingOrderRow.holds Try.pinned (OpenSpec.ofChange wrappingOrderSpec)

/-- ITS FALSE NEIGHBOUR: 'it returns false'. Refute it at one input. -/
def wrappingOrderWrong : ChangeSpec := { name := "wrappingOrder", fn := fun _ => fun
  | [d1, d2, d3, d4, d5] => { results := [.lit (.bool false)], args := [d1, d2, d3, d4, d5] }
  | _ => none }
def WrappingOrderWrongFalsely : Prop := wrappingOrderRow.holds Try.pinned (OpenSpec.ofChange wrappingOrderWrong)

/-- 'seepagelaw30.WrappingOffsets': WHATEVER THE INPUT: true; the input reads as it did. -/
def wrappingOffsetsSpec : ChangeSpec := { name := "wrappingOffsets", fn := fun _ => fun
  | [d1, d2, d3, d4, d5, d6] => { results := [.lit (.bool true)], args := [d1, d2, d3, d4, d5, d6] }
  | _ => none }
def wrappingOffsetsRow : OpenClaim := { program := "ytnkkdoookhhhaaa", sum := "a78c12ad833c1daf9c3cde38a27f5519830eecb649c6dee5b2207a7ac6b1ca3e", func := "seepage/seepagelaw30.WrappingOffsets", spec := "wrappingOffsets", unfollowed := true, recurses := true, apart := false }
def WrappingOffsetsSaid : Prop := wrappingOffsetsRow.holds Try.pinned (OpenSpec.ofChange wrappingOffsetsSpec)

/-- ITS FALSE NEIGHBOUR: 'it returns false'. Refute it at one input. -/
def wrappingOffsetsWrong : ChangeSpec := { name := "wrappingOffsets", fn := fun _ => fun
  | [d1, d2, d3, d4, d5, d6] => { results := [.lit (.bool false)], args := [d1, d2, d3, d4, d5, d6] }
  | _ => none }
def WrappingOffsetsWrongFalsely : Prop := wrappingOffsetsRow.holds Try.pinned (OpenSpec.ofChange wrappingOffsetsWrong)

/-- 'seepagelaw30.WrappingEdges': WHATEVER THE INPUT: true; the input reads as it did. -/
def wrappingEdgesSpec : ChangeSpec := { name := "wrappingEdges", fn := fun _ => fun
  | [d1, d2, d3, d4] => { results := [.lit (.bool true)], args := [d1, d2, d3, d4] }
  | _ => none }
def wrappingEdgesRow : OpenClaim := { program := "ytnkkdoookhhhaaa", sum := "a78c12ad833c1daf9c3cde38a27f5519830eecb649c6dee5b2207a7ac6b1ca3e", func := "seepage/seepagelaw30.WrappingEdges", spec := "wrappingEdges", unfollowed := true, recurses := true, apart := false }
def WrappingEdgesSaid : Prop := wrappingEdgesRow.holds Try.pinned (OpenSpec.ofChange wrappingEdgesSpec)

/-- ITS FALSE NEIGHBOUR: 'it returns false'. Refute it at one input. -/
def wrappingEdgesWrong : ChangeSpec := { name := "wrappingEdges", fn := fun _ => fun
  | [d1, d2, d3, d4] => { results := [.lit (.bool false)], args := [d1, d2, d3, d4] }
  | _ => none }
def WrappingEdgesWrongFalsely : Prop := wrappingEdgesRow.holds Try.pinned (OpenSpec.ofChange wrappingEdgesWrong)

/- THE SECOND FORM. 'bulk': how many values and letters a reading holds, each counted each time it is reached (what is shared counts as often as it is met; a slice's spare places count too). A statement '..UptoSaid' is the law's where the arguments, and the package variables that the reading takes, are together of bulk at most 1048576: NARROWER than '..Said'. Prove '..Said' where nothing that the law and all that it calls make is longer than what came in: it says more and counts as full. Else prove '..UptoSaid'. A law counts once. -/
mutual
def uptoBulk {H : Type} : DataW H → Nat
  | .lit (.string bytes) => bytes.length + 1
  | .lit _ => 1
  | .nil => 1
  | .ptr d => uptoBulk d + 1
  | .slice elems spare => uptoBulkAll elems + uptoBulkAll spare + 1
  | .agg parts => uptoBulkAll parts + 1
  | .iface _ d => uptoBulk d + 1
  | .map entries => uptoBulkEntries entries + 1
  | .held _ => 1
def uptoBulkAll {H : Type} : List (DataW H) → Nat
  | [] => 0
  | d :: r => uptoBulk d + uptoBulkAll r
def uptoBulkEntries {H : Type} : List (Lit × DataW H) → Nat
  | [] => 0
  | x :: r => uptoBulkEntry x + uptoBulkEntries r
def uptoBulkEntry {H : Type} : Lit × DataW H → Nat
  | (.string bytes, d) => bytes.length + uptoBulk d + 1
  | (_, d) => uptoBulk d + 1
 end
def uptoSmall : (H : Type) → List (DataW H) → Bool := fun _ ds => decide (uptoBulkAll ds ≤ 1048576)
def OpenSpec.upto (s : _root_.Go.ChangeSpec) : _root_.Go.OpenSpec := { _root_.Go.OpenSpec.ofChange s with cond := some uptoSmall }

/-- 'seepagelaw30.WrappingFirsts', WHERE WHAT IT READS IS OF BULK AT MOST 1048576: true; the input reads as it did. -/
def wrappingFirstsUptoRow : OpenClaim := { program := "ytnkkdoookhhhaaa", sum := "a78c12ad833c1daf9c3cde38a27f5519830eecb649c6dee5b2207a7ac6b1ca3e", func := "seepage/seepagelaw30.WrappingFirsts", spec := "wrappingFirsts", unfollowed := true, recurses := true, apart := false, narrowed := true }
def WrappingFirstsUptoSaid : Prop := wrappingFirstsUptoRow.holds Try.pinned (OpenSpec.upto wrappingFirstsSpec)

/-- 'seepagelaw30.WrappingTurn', WHERE WHAT IT READS IS OF BULK AT MOST 1048576: true; the input reads as it did. -/
def wrappingTurnUptoRow : OpenClaim := { program := "ytnkkdoookhhhaaa", sum := "a78c12ad833c1daf9c3cde38a27f5519830eecb649c6dee5b2207a7ac6b1ca3e", func := "seepage/seepagelaw30.WrappingTurn", spec := "wrappingTurn", unfollowed := true, recurses := true, apart := false, narrowed := true }
def WrappingTurnUptoSaid : Prop := wrappingTurnUptoRow.holds Try.pinned (OpenSpec.upto wrappingTurnSpec)

/-- 'seepagelaw30.WrappingFew', WHERE WHAT IT READS IS OF BULK AT MOST 1048576: true; the input reads as it did. -/
def wrappingFewUptoRow : OpenClaim := { program := "ytnkkdoookhhhaaa", sum := "a78c12ad833c1daf9c3cde38a27f5519830eecb649c6dee5b2207a7ac6b1ca3e", func := "seepage/seepagelaw30.WrappingFew", spec := "wrappingFew", unfollowed := true, recurses := true, apart := false, narrowed := true }
def WrappingFewUptoSaid : Prop := wrappingFewUptoRow.holds Try.pinned (OpenSpec.upto wrappingFewSpec)

/-- 'seepagelaw30.WrappingFirst', WHERE WHAT IT READS IS OF BULK AT MOST 1048576: true; the input reads as it did. -/
def wrappingFirstUptoRow : OpenClaim := { program := "ytnkkdoookhhhaaa", sum := "a78c12ad833c1daf9c3cde38a27f5519830eecb649c6dee5b2207a7ac6b1ca3e", func := "seepage/seepagelaw30.WrappingFirst", spec := "wrappingFirst", unfollowed := true, recurses := true, apart := false, narrowed := true }
def WrappingFirstUptoSaid : Prop := wrappingFirstUptoRow.holds Try.pinned (OpenSpec.upto wrappingFirstSpec)

/-- 'seepagelaw30.WrappingNews', WHERE WHAT IT READS IS OF BULK AT MOST 1048576: true; the input reads as it did. -/
def wrappingNewsUptoRow : OpenClaim := { program := "ytnkkdoookhhhaaa", sum := "a78c12ad833c1daf9c3cde38a27f5519830eecb649c6dee5b2207a7ac6b1ca3e", func := "seepage/seepagelaw30.WrappingNews", spec := "wrappingNews", unfollowed := true, recurses := true, apart := false, narrowed := true }
def WrappingNewsUptoSaid : Prop := wrappingNewsUptoRow.holds Try.pinned (OpenSpec.upto wrappingNewsSpec)

/-- 'seepagelaw30.WrappingPlays', WHERE WHAT IT READS IS OF BULK AT MOST 1048576: true; the input reads as it did. -/
def wrappingPlaysUptoRow : OpenClaim := { program := "ytnkkdoookhhhaaa", sum := "a78c12ad833c1daf9c3cde38a27f5519830eecb649c6dee5b2207a7ac6b1ca3e", func := "seepage/seepagelaw30.WrappingPlays", spec := "wrappingPlays", unfollowed := true, recurses := true, apart := false, narrowed := true }
def WrappingPlaysUptoSaid : Prop := wrappingPlaysUptoRow.holds Try.pinned (OpenSpec.upto wrappingPlaysSpec)

/-- 'seepagelaw30.WrappingNil', WHERE WHAT IT READS IS OF BULK AT MOST 1048576: true; the input reads as it did. -/
def wrappingNilUptoRow : OpenClaim := { program := "ytnkkdoookhhhaaa", sum := "a78c12ad833c1daf9c3cde38a27f5519830eecb649c6dee5b2207a7ac6b1ca3e", func := "seepage/seepagelaw30.WrappingNil", spec := "wrappingNil", unfollowed := true, recurses := true, apart := false, narrowed := true }
def WrappingNilUptoSaid : Prop := wrappingNilUptoRow.holds Try.pinned (OpenSpec.upto wrappingNilSpec)

/-- 'seepagelaw30.WrappingOrder', WHERE WHAT IT READS IS OF BULK AT MOST 1048576: true; the input reads as it did. -/
def wrappingOrderUptoRow : OpenClaim := { program := "ytnkkdoookhhhaaa", sum := "a78c12ad833c1daf9c3cde38a27f5519830eecb649c6dee5b2207a7ac6b1ca3e", func := "seepage/seepagelaw30.WrappingOrder", spec := "wrappingOrder", unfollowed := true, recurses := true, apart := false, narrowed := true }
def WrappingOrderUptoSaid : Prop := wrappingOrderUptoRow.holds Try.pinned (OpenSpec.upto wrappingOrderSpec)

/-- 'seepagelaw30.WrappingOffsets', WHERE WHAT IT READS IS OF BULK AT MOST 1048576: true; the input reads as it did. -/
def wrappingOffsetsUptoRow : OpenClaim := { program := "ytnkkdoookhhhaaa", sum := "a78c12ad833c1daf9c3cde38a27f5519830eecb649c6dee5b2207a7ac6b1ca3e", func := "seepage/seepagelaw30.WrappingOffsets", spec := "wrappingOffsets", unfollowed := true, recurses := true, apart := false, narrowed := true }
def WrappingOffsetsUptoSaid : Prop := wrappingOffsetsUptoRow.holds Try.pinned (OpenSpec.upto wrappingOffsetsSpec)

/-- 'seepagelaw30.WrappingEdges', WHERE WHAT IT READS IS OF BULK AT MOST 1048576: true; the input reads as it did. -/
def wrappingEdgesUptoRow : OpenClaim := { program := "ytnkkdoookhhhaaa", sum := "a78c12ad833c1daf9c3cde38a27f5519830eecb649c6dee5b2207a7ac6b1ca3e", func := "seepage/seepagelaw30.WrappingEdges", spec := "wrappingEdges", unfollowed := true, recurses := true, apart := false, narrowed := true }
def WrappingEdgesUptoSaid : Prop := wrappingEdgesUptoRow.holds Try.pinned (OpenSpec.upto wrappingEdgesSpec)

end Rows
end Go.Proofs.Ytnkkdoookhhhaaa
