/- DERIVED. A run of the kernel: a call with its memory. -/
import Derived.Test.YthknbcbkibbncaaGreatWo28
set_option linter.all false
namespace Go.Proofs.YthknbcbkibbncaaGreat
open Ev
set_option maxRecDepth 1000000 in
set_option maxHeartbeats 0 in
theorem run_wb27 : Kq.askS lvWa.q lvWa.x 100 45 wb27 = true := by kernel_rfl
end Go.Proofs.YthknbcbkibbncaaGreat
