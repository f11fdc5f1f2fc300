/-
  DERIVED. GIVEN WITH THE SEED: THE CARDS: each row of YtoomcgmbaogjbaaDoorRows.lean that lists a variable, with what it lists TIED to the program's text (the seventh form; the later family's looks); each row that meets fmt, with fmt's text TOLD by the authors' own Lean function (tested against real Go, not proved from fmt's source: count such statements apart). THE CARD IS WHAT COUNTS. Prove the row's statement (the work); the ties are given (YtoomcgmbaogjbaaDoorTie.lean); close each card by the builder's one call (the guide's Derived/Test/ToyasCard.lean, 'card_holds'). Laid BY PROGRAM, IN A SANDBOX (cutbox-door.mjs). By AI agents, Wed Nov 11 2026. No macro, syntax, notation, axiom, sorry.
-/
import Derived.Test.YtoomcgmbaogjbaaDoorRows
import GoSem.ClaimSeven
namespace Go.Proofs.YtoomcgmbaogjbaaDoor
namespace Rows

/-- THE TIED CARD OF 'seepagetop.TopPaths'. -/
def topPathsCard : Claim7 := { stood := { row := topPathsRow, standIns := [], harness := (true, "f9827683410126599404d76152f5953c1324608d8fb7087e6adaebfaac4dc7b5"), looks := false }, kinds := [], alts := [], laidByText := true, laidKinds := [.data, .data], laidTests := true, laidLooks := .later }
def TopPathsCardSaid : Prop := Claim7.holds Tryd.pinned (.plain (OpenSpec.ofChange topPathsSpec)) topPathsCard

/-- THE SECOND FORM's CARD OF 'seepagetop.TopPaths'. -/
def topPathsUptoCard : Claim7 := { stood := { row := topPathsUptoRow, standIns := [], harness := (true, "f9827683410126599404d76152f5953c1324608d8fb7087e6adaebfaac4dc7b5"), looks := false }, kinds := [], alts := [], laidByText := true, laidKinds := [.data, .data], laidTests := true, laidLooks := .later }
def TopPathsUptoCardSaid : Prop := Claim7.holds Tryd.pinned (.plain (OpenSpec.upto topPathsSpec)) topPathsUptoCard
end Rows
end Go.Proofs.YtoomcgmbaogjbaaDoor
