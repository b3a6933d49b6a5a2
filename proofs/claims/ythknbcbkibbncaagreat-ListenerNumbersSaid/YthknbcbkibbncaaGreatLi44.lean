/- DERIVED. The kernel's run of the law ListenerNumbers. -/
import Derived.Test.YthknbcbkibbncaaGreatLi43
set_option linter.all false
namespace Go.Proofs.YthknbcbkibbncaaGreat
open Ev
set_option maxRecDepth 1000000 in
set_option maxHeartbeats 0 in
theorem listenerNumbers_ask : Kq.ask lvLd.q lvLd.x 100 4 = true := by kernel_rfl
end Go.Proofs.YthknbcbkibbncaaGreat
