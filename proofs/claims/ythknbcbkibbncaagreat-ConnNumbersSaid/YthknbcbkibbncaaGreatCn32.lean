/- DERIVED. The kernel's run of the law ConnNumbers. -/
import Derived.Test.YthknbcbkibbncaaGreatCn31
set_option linter.all false
namespace Go.Proofs.YthknbcbkibbncaaGreat
open Ev
set_option maxRecDepth 1000000 in
set_option maxHeartbeats 0 in
theorem connNumbers_ask : Kq.ask lvCd.q lvCd.x 100 3 = true := by kernel_rfl
end Go.Proofs.YthknbcbkibbncaaGreat
