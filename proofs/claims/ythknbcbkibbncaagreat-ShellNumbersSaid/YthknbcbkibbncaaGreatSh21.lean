/- DERIVED. The kernel's run of the law ShellNumbers. -/
import Derived.Test.YthknbcbkibbncaaGreatSh20
set_option linter.all false
namespace Go.Proofs.YthknbcbkibbncaaGreat
open Ev
set_option maxRecDepth 1000000 in
set_option maxHeartbeats 0 in
theorem shellNumbers_ask : Kq.ask lv0.q lv0.x 100 7 = true := by kernel_rfl
end Go.Proofs.YthknbcbkibbncaaGreat
