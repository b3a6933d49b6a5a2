/- DERIVED. A run of the kernel: a call with its memory. -/
import Derived.Test.YthknbcbkibbncaaGreatLi12
import Derived.Test.YthknbcbkibbncaaGreatLi21
set_option linter.all false
namespace Go.Proofs.YthknbcbkibbncaaGreat
open Ev
set_option maxRecDepth 1000000 in
set_option maxHeartbeats 0 in
theorem run_la9 : Kq.askS lv0.q lv0.x 100 100 la9 = true := by kernel_rfl
end Go.Proofs.YthknbcbkibbncaaGreat
