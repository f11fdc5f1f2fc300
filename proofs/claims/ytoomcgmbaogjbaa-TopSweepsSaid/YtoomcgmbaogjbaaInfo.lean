/- What the type int is. -/
import Derived.Test.YtoomcgmbaogjbaaRows
import Derived.Test.YtoomcgmbaogjbaaMem
namespace Go.Proofs.Ytoomcgmbaogjbaa
open Go.RowKit

theorem int_info0 : (Try.prog.info? 3).map (fun i => (i.zero, i.size, i.bytes)) = some (some (.int .i64 0), 1, 8) := by kernel_rfl
end Go.Proofs.Ytoomcgmbaogjbaa
