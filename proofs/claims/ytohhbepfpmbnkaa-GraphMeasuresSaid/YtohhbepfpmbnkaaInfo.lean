/- What the type int is. -/
import Derived.Test.YtohhbepfpmbnkaaRows
import Derived.Test.YtohhbepfpmbnkaaMem
namespace Go.Proofs.Ytohhbepfpmbnkaa
open Go.RowKit

theorem int_info0 : (Try.prog.info? 3).map (fun i => (i.zero, i.size, i.bytes)) = some (some (.int .i64 0), 1, 8) := by kernel_rfl
end Go.Proofs.Ytohhbepfpmbnkaa
