/- DERIVED. A run of the kernel: a call with its memory. -/
import Derived.Test.YthknbcbkibbncaaGreatCn17
import Derived.Test.YthknbcbkibbncaaGreatCn29
set_option linter.all false
namespace Go.Proofs.YthknbcbkibbncaaGreat
open Ev
set_option maxRecDepth 1000000 in
set_option maxHeartbeats 0 in
theorem run_cb11 : Kq.askS lvCb.q lvCb.x 100 23 cb11 = true := by kernel_rfl
end Go.Proofs.YthknbcbkibbncaaGreat
