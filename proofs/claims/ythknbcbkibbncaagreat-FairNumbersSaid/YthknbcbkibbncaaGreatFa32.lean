/- DERIVED. The kernel's run of the law FairNumbers. -/
import Derived.Test.YthknbcbkibbncaaGreatFa31
set_option linter.all false
namespace Go.Proofs.YthknbcbkibbncaaGreat
open Ev
set_option maxRecDepth 1000000 in
set_option maxHeartbeats 0 in
theorem fairNumbers_ask : Kq.ask lvFd.q lvFd.x 100 6 = true := by kernel_rfl
end Go.Proofs.YthknbcbkibbncaaGreat
