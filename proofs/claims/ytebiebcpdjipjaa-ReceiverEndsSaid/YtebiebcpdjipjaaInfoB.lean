/- DERIVED. What a byte's type is. -/
import Derived.Test.YtebiebcpdjipjaaView
import Derived.Laws.MakeOwn
import Derived.Laws.OwnMore
namespace Go.Proofs.Ytebiebcpdjipjaa
open Go.RowKit

theorem infoB : (Try.prog.info? 5).map (fun i => (i.zero, i.size, i.bytes)) = some (some (.int .u8 0), 1, 1) := by kernel_rfl
theorem zeroB : (Value.int .u8 0).cells.toList = encB 0 := rfl
end Go.Proofs.Ytebiebcpdjipjaa
