/- DERIVED. The kernel's run of the law WorldNumbers. -/
import Derived.Test.YthknbcbkibbncaaGreatWo35
set_option linter.all false
namespace Go.Proofs.YthknbcbkibbncaaGreat
open Ev
set_option maxRecDepth 1000000 in
set_option maxHeartbeats 0 in
theorem worldNumbers_ask : Kq.ask lvWd.q lvWd.x 100 5 = true := by kernel_rfl
end Go.Proofs.YthknbcbkibbncaaGreat
