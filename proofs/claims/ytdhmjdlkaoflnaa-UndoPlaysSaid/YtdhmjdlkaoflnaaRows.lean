/-
  No cell of these rows narrows 'for every input' (looked for: loops, veiled, ifaces, maps, wideKeys, modest, calm, conditions, laid).
  DERIVED. THE GIVEN ROWS OF THIS SEAT. 8 by the template 'for every input the law returns true; each argument reads behind the call as it read before'; 0 by the template 'total and deterministic' (their statements: YtdhmjdlkaoflnaaTotals.lean).
  GIVEN WITH THE SEED: the statements are not yours to turn. If you find one false, say at which input.
  Laid BY PROGRAM, IN A SANDBOX (cutbox-rows.mjs): the forced cells as the released guide's own fill.sh prints them over the translation deb7512388ec0811… (all of the seat's roots in one cut). By AI agents, Wed Nov 11 2026. No macro, syntax, notation, axiom, sorry.
-/
import Derived.Test.YtdhmjdlkaoflnaaChecked
import GoSem.Claim
import GoSem.ClaimJoined
import GoSem.ClaimMapViews
import Derived.JoinedTies
import Derived.KernelRfl
namespace Go.Proofs.Ytdhmjdlkaoflnaa
/- THE CELL 'sum', in the pinned program and in every row, IS THE sha256 OF THE DUMP (.gsa) THAT YtdhmjdlkaoflnaaProg.lean LOADS. Nothing in Lean hashes anything: it is a label: what it is worth is what the hold of that sum in a sandbox is worth. -/
noncomputable def Try.pinned : Pinned := { name := "ytdhmjdlkaoflnaa", sum := "deb7512388ec081163acee8c8c219727dc806fa8a30180f5c6ce8e3709de1372", checked := Try.checked }
namespace Rows
def none {H : Type} : Left H := { results := [], args := [] }

/-- 'seepagelaw09.UndoReturns': WHATEVER THE INPUT: true; the input reads as it did. -/
def undoReturnsSpec : ChangeSpec := { name := "undoReturns", fn := fun _ => fun
  | [d1, d2] => { results := [.lit (.bool true)], args := [d1, d2] }
  | _ => none }
def undoReturnsRow : OpenClaim := { program := "ytdhmjdlkaoflnaa", sum := "deb7512388ec081163acee8c8c219727dc806fa8a30180f5c6ce8e3709de1372", func := "seepage/seepagelaw09.UndoReturns", spec := "undoReturns", apart := false }
def UndoReturnsSaid : Prop := undoReturnsRow.holds Try.pinned (OpenSpec.ofChange undoReturnsSpec)

/-- ITS FALSE NEIGHBOUR: 'it returns false'. Refute it at one input. -/
def undoReturnsWrong : ChangeSpec := { name := "undoReturns", fn := fun _ => fun
  | [d1, d2] => { results := [.lit (.bool false)], args := [d1, d2] }
  | _ => none }
def UndoReturnsWrongFalsely : Prop := undoReturnsRow.holds Try.pinned (OpenSpec.ofChange undoReturnsWrong)

/-- 'seepagelaw09.UndoOrders': WHATEVER THE INPUT: true; the input reads as it did. -/
def undoOrdersSpec : ChangeSpec := { name := "undoOrders", fn := fun _ => fun
  | [d] => { results := [.lit (.bool true)], args := [d] }
  | _ => none }
def undoOrdersRow : OpenClaim := { program := "ytdhmjdlkaoflnaa", sum := "deb7512388ec081163acee8c8c219727dc806fa8a30180f5c6ce8e3709de1372", func := "seepage/seepagelaw09.UndoOrders", spec := "undoOrders", apart := false }
def UndoOrdersSaid : Prop := undoOrdersRow.holds Try.pinned (OpenSpec.ofChange undoOrdersSpec)

/-- ITS FALSE NEIGHBOUR: 'it returns false'. Refute it at one input. -/
def undoOrdersWrong : ChangeSpec := { name := "undoOrders", fn := fun _ => fun
  | [d] => { results := [.lit (.bool false)], args := [d] }
  | _ => none }
def UndoOrdersWrongFalsely : Prop := undoOrdersRow.holds Try.pinned (OpenSpec.ofChange undoOrdersWrong)

/-- 'seepagelaw09.UndoNews': WHATEVER THE INPUT: true; the input reads as it did. -/
def undoNewsSpec : ChangeSpec := { name := "undoNews", fn := fun _ => fun
  | [d1, d2, d3] => { results := [.lit (.bool true)], args := [d1, d2, d3] }
  | _ => none }
def undoNewsRow : OpenClaim := { program := "ytdhmjdlkaoflnaa", sum := "deb7512388ec081163acee8c8c219727dc806fa8a30180f5c6ce8e3709de1372", func := "seepage/seepagelaw09.UndoNews", spec := "undoNews", apart := false }
def UndoNewsSaid : Prop := undoNewsRow.holds Try.pinned (OpenSpec.ofChange undoNewsSpec)

/-- ITS FALSE NEIGHBOUR: 'it returns false'. Refute it at one input. -/
def undoNewsWrong : ChangeSpec := { name := "undoNews", fn := fun _ => fun
  | [d1, d2, d3] => { results := [.lit (.bool false)], args := [d1, d2, d3] }
  | _ => none }
def UndoNewsWrongFalsely : Prop := undoNewsRow.holds Try.pinned (OpenSpec.ofChange undoNewsWrong)

/-- 'seepagelaw09.UndoCounts': WHATEVER THE INPUT: true; the input reads as it did. -/
def undoCountsSpec : ChangeSpec := { name := "undoCounts", fn := fun _ => fun
  | [d] => { results := [.lit (.bool true)], args := [d] }
  | _ => none }
def undoCountsRow : OpenClaim := { program := "ytdhmjdlkaoflnaa", sum := "deb7512388ec081163acee8c8c219727dc806fa8a30180f5c6ce8e3709de1372", func := "seepage/seepagelaw09.UndoCounts", spec := "undoCounts", apart := false }
def UndoCountsSaid : Prop := undoCountsRow.holds Try.pinned (OpenSpec.ofChange undoCountsSpec)

/-- ITS FALSE NEIGHBOUR: 'it returns false'. Refute it at one input. -/
def undoCountsWrong : ChangeSpec := { name := "undoCounts", fn := fun _ => fun
  | [d] => { results := [.lit (.bool false)], args := [d] }
  | _ => none }
def UndoCountsWrongFalsely : Prop := undoCountsRow.holds Try.pinned (OpenSpec.ofChange undoCountsWrong)

/-- 'seepagelaw09.UndoTrials': WHATEVER THE INPUT: true; the input reads as it did. -/
def undoTrialsSpec : ChangeSpec := { name := "undoTrials", fn := fun _ => fun
  | [d1, d2] => { results := [.lit (.bool true)], args := [d1, d2] }
  | _ => none }
def undoTrialsRow : OpenClaim := { program := "ytdhmjdlkaoflnaa", sum := "deb7512388ec081163acee8c8c219727dc806fa8a30180f5c6ce8e3709de1372", func := "seepage/seepagelaw09.UndoTrials", spec := "undoTrials", apart := false }
def UndoTrialsSaid : Prop := undoTrialsRow.holds Try.pinned (OpenSpec.ofChange undoTrialsSpec)

/-- ITS FALSE NEIGHBOUR: 'it returns false'. Refute it at one input. -/
def undoTrialsWrong : ChangeSpec := { name := "undoTrials", fn := fun _ => fun
  | [d1, d2] => { results := [.lit (.bool false)], args := [d1, d2] }
  | _ => none }
def UndoTrialsWrongFalsely : Prop := undoTrialsRow.holds Try.pinned (OpenSpec.ofChange undoTrialsWrong)

/-- 'seepagelaw09.UndoPlays': WHATEVER THE INPUT: true; the input reads as it did. -/
def undoPlaysSpec : ChangeSpec := { name := "undoPlays", fn := fun _ => fun
  | [d1, d2, d3, d4] => { results := [.lit (.bool true)], args := [d1, d2, d3, d4] }
  | _ => none }
def undoPlaysRow : OpenClaim := { program := "ytdhmjdlkaoflnaa", sum := "deb7512388ec081163acee8c8c219727dc806fa8a30180f5c6ce8e3709de1372", func := "seepage/seepagelaw09.UndoPlays", spec := "undoPlays", apart := false }
def UndoPlaysSaid : Prop := undoPlaysRow.holds Try.pinned (OpenSpec.ofChange undoPlaysSpec)

/-- ITS FALSE NEIGHBOUR: 'it returns false'. Refute it at one input. -/
def undoPlaysWrong : ChangeSpec := { name := "undoPlays", fn := fun _ => fun
  | [d1, d2, d3, d4] => { results := [.lit (.bool false)], args := [d1, d2, d3, d4] }
  | _ => none }
def UndoPlaysWrongFalsely : Prop := undoPlaysRow.holds Try.pinned (OpenSpec.ofChange undoPlaysWrong)

/-- 'seepagelaw09.UndoNil': WHATEVER THE INPUT: true; the input reads as it did. -/
def undoNilSpec : ChangeSpec := { name := "undoNil", fn := fun _ => fun
  | [d1, d2, d3] => { results := [.lit (.bool true)], args := [d1, d2, d3] }
  | _ => none }
def undoNilRow : OpenClaim := { program := "ytdhmjdlkaoflnaa", sum := "deb7512388ec081163acee8c8c219727dc806fa8a30180f5c6ce8e3709de1372", func := "seepage/seepagelaw09.UndoNil", spec := "undoNil", apart := false }
def UndoNilSaid : Prop := undoNilRow.holds Try.pinned (OpenSpec.ofChange undoNilSpec)

/-- ITS FALSE NEIGHBOUR: 'it returns false'. Refute it at one input. -/
def undoNilWrong : ChangeSpec := { name := "undoNil", fn := fun _ => fun
  | [d1, d2, d3] => { results := [.lit (.bool false)], args := [d1, d2, d3] }
  | _ => none }
def UndoNilWrongFalsely : Prop := undoNilRow.holds Try.pinned (OpenSpec.ofChange undoNilWrong)

/-- 'seepagelaw09.UndoKnown': WHATEVER THE INPUT: true; the input reads as it did. -/
def undoKnownSpec : ChangeSpec := { name := "undoKnown", fn := fun _ => fun
  | [] => { results := [.lit (.bool true)], args := [] }
  | _ => none }
def undoKnownRow : OpenClaim := { program := "ytdhmjdlkaoflnaa", sum := "deb7512388ec081163acee8c8c219727dc806fa8a30180f5c6ce8e3709de1372", func := "seepage/seepagelaw09.UndoKnown", spec := "undoKnown", apart := false }
def UndoKnownSaid : Prop := undoKnownRow.holds Try.pinned (OpenSpec.ofChange undoKnownSpec)

/-- ITS FALSE NEIGHBOUR: 'it returns false'. Refute it at one input. -/
def undoKnownWrong : ChangeSpec := { name := "undoKnown", fn := fun _ => fun
  | [] => { results := [.lit (.bool false)], args := [] }
  | _ => none }
def UndoKnownWrongFalsely : Prop := undoKnownRow.holds Try.pinned (OpenSpec.ofChange undoKnownWrong)

/- THE SECOND FORM. 'bulk': how many values and letters a reading holds, each counted each time it is reached (what is shared counts as often as it is met; a slice's spare places count too). A statement '..UptoSaid' is the law's where the arguments, and the package variables that the reading takes, are together of bulk at most 1048576: NARROWER than '..Said'. Prove '..Said' where nothing that the law and all that it calls make is longer than what came in: it says more and counts as full. Else prove '..UptoSaid'. A law counts once. -/
mutual
def uptoBulk {H : Type} : DataW H → Nat
  | .lit (.string bytes) => bytes.length + 1
  | .lit _ => 1
  | .nil => 1
  | .ptr d => uptoBulk d + 1
  | .slice elems spare => uptoBulkAll elems + uptoBulkAll spare + 1
  | .agg parts => uptoBulkAll parts + 1
  | .iface _ d => uptoBulk d + 1
  | .map entries => uptoBulkEntries entries + 1
  | .held _ => 1
def uptoBulkAll {H : Type} : List (DataW H) → Nat
  | [] => 0
  | d :: r => uptoBulk d + uptoBulkAll r
def uptoBulkEntries {H : Type} : List (Lit × DataW H) → Nat
  | [] => 0
  | x :: r => uptoBulkEntry x + uptoBulkEntries r
def uptoBulkEntry {H : Type} : Lit × DataW H → Nat
  | (.string bytes, d) => bytes.length + uptoBulk d + 1
  | (_, d) => uptoBulk d + 1
 end
def uptoSmall : (H : Type) → List (DataW H) → Bool := fun _ ds => decide (uptoBulkAll ds ≤ 1048576)
def OpenSpec.upto (s : _root_.Go.ChangeSpec) : _root_.Go.OpenSpec := { _root_.Go.OpenSpec.ofChange s with cond := some uptoSmall }

/-- 'seepagelaw09.UndoReturns', WHERE WHAT IT READS IS OF BULK AT MOST 1048576: true; the input reads as it did. -/
def undoReturnsUptoRow : OpenClaim := { program := "ytdhmjdlkaoflnaa", sum := "deb7512388ec081163acee8c8c219727dc806fa8a30180f5c6ce8e3709de1372", func := "seepage/seepagelaw09.UndoReturns", spec := "undoReturns", apart := false, narrowed := true }
def UndoReturnsUptoSaid : Prop := undoReturnsUptoRow.holds Try.pinned (OpenSpec.upto undoReturnsSpec)

/-- 'seepagelaw09.UndoOrders', WHERE WHAT IT READS IS OF BULK AT MOST 1048576: true; the input reads as it did. -/
def undoOrdersUptoRow : OpenClaim := { program := "ytdhmjdlkaoflnaa", sum := "deb7512388ec081163acee8c8c219727dc806fa8a30180f5c6ce8e3709de1372", func := "seepage/seepagelaw09.UndoOrders", spec := "undoOrders", apart := false, narrowed := true }
def UndoOrdersUptoSaid : Prop := undoOrdersUptoRow.holds Try.pinned (OpenSpec.upto undoOrdersSpec)

/-- 'seepagelaw09.UndoNews', WHERE WHAT IT READS IS OF BULK AT MOST 1048576: true; the input reads as it did. -/
def undoNewsUptoRow : OpenClaim := { program := "ytdhmjdlkaoflnaa", sum := "deb7512388ec081163acee8c8c219727dc806fa8a30180f5c6ce8e3709de1372", func := "seepage/seepagelaw09.UndoNews", spec := "undoNews", apart := false, narrowed := true }
def UndoNewsUptoSaid : Prop := undoNewsUptoRow.holds Try.pinned (OpenSpec.upto undoNewsSpec)

/-- 'seepagelaw09.UndoCounts', WHERE WHAT IT READS IS OF BULK AT MOST 1048576: true; the input reads as it did. -/
def undoCountsUptoRow : OpenClaim := { program := "ytdhmjdlkaoflnaa", sum := "deb7512388ec081163acee8c8c219727dc806fa8a30180f5c6ce8e3709de1372", func := "seepage/seepagelaw09.UndoCounts", spec := "undoCounts", apart := false, narrowed := true }
def UndoCountsUptoSaid : Prop := undoCountsUptoRow.holds Try.pinned (OpenSpec.upto undoCountsSpec)

/-- 'seepagelaw09.UndoTrials', WHERE WHAT IT READS IS OF BULK AT MOST 1048576: true; the input reads as it did. -/
def undoTrialsUptoRow : OpenClaim := { program := "ytdhmjdlkaoflnaa", sum := "deb7512388ec081163acee8c8c219727dc806fa8a30180f5c6ce8e3709de1372", func := "seepage/seepagelaw09.UndoTrials", spec := "undoTrials", apart := false, narrowed := true }
def UndoTrialsUptoSaid : Prop := undoTrialsUptoRow.holds Try.pinned (OpenSpec.upto undoTrialsSpec)

/-- 'seepagelaw09.UndoPlays', WHERE WHAT IT READS IS OF BULK AT MOST 1048576: true; the input reads as it did. -/
def undoPlaysUptoRow : OpenClaim := { program := "ytdhmjdlkaoflnaa", sum := "deb7512388ec081163acee8c8c219727dc806fa8a30180f5c6ce8e3709de1372", func := "seepage/seepagelaw09.UndoPlays", spec := "undoPlays", apart := false, narrowed := true }
def UndoPlaysUptoSaid : Prop := undoPlaysUptoRow.holds Try.pinned (OpenSpec.upto undoPlaysSpec)

/-- 'seepagelaw09.UndoNil', WHERE WHAT IT READS IS OF BULK AT MOST 1048576: true; the input reads as it did. -/
def undoNilUptoRow : OpenClaim := { program := "ytdhmjdlkaoflnaa", sum := "deb7512388ec081163acee8c8c219727dc806fa8a30180f5c6ce8e3709de1372", func := "seepage/seepagelaw09.UndoNil", spec := "undoNil", apart := false, narrowed := true }
def UndoNilUptoSaid : Prop := undoNilUptoRow.holds Try.pinned (OpenSpec.upto undoNilSpec)

/-- 'seepagelaw09.UndoKnown', WHERE WHAT IT READS IS OF BULK AT MOST 1048576: true; the input reads as it did. -/
def undoKnownUptoRow : OpenClaim := { program := "ytdhmjdlkaoflnaa", sum := "deb7512388ec081163acee8c8c219727dc806fa8a30180f5c6ce8e3709de1372", func := "seepage/seepagelaw09.UndoKnown", spec := "undoKnown", apart := false, narrowed := true }
def UndoKnownUptoSaid : Prop := undoKnownUptoRow.holds Try.pinned (OpenSpec.upto undoKnownSpec)

end Rows
end Go.Proofs.Ytdhmjdlkaoflnaa
