/- Pieces of a function's code. -/
import Derived.WalkKit
namespace Go.Proofs.Ytoomcgmbaogjbaa
/-- The first range over a function in a code. -/
def fstRange : Code → Option Code
  | .seq a b => (fstRange a).or (fstRange b)
  | .cond _ a b => (fstRange a).or (fstRange b)
  | .block _ a => fstRange a
  | .loop a => fstRange a
  | .rangeFunc a b c d => some (.rangeFunc a b c d)
  | _ => none
/-- The first region in a code that draws its order. -/
def fstDraw : Code → Option Code
  | .seq a b => (fstDraw a).or (fstDraw b)
  | .cond _ a b => (fstDraw a).or (fstDraw b)
  | .block _ a => fstDraw a
  | .loop a => fstDraw a
  | .rangeFunc _ _ _ d => fstDraw d
  | .region i o true => some (.region i o true)
  | _ => none
end Go.Proofs.Ytoomcgmbaogjbaa
