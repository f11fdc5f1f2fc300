/- What the type int is. -/
import Derived.Test.YtoomcgmbaogjbaaDoorRows
import Derived.Test.YtoomcgmbaogjbaaDoorMem
namespace Go.Proofs.YtoomcgmbaogjbaaDoor
open Go.RowKit

theorem int_info0 : (Tryd.prog.info? 3).map (fun i => (i.zero, i.size, i.bytes)) = some (some (.int .i64 0), 1, 8) := by kernel_rfl
end Go.Proofs.YtoomcgmbaogjbaaDoor
