/- DERIVED. A run of the kernel: a call with its memory. -/
import Derived.Test.YthknbcbkibbncaaGreatCn12
import Derived.Test.YthknbcbkibbncaaGreatCn13
set_option linter.all false
namespace Go.Proofs.YthknbcbkibbncaaGreat
open Ev
set_option maxRecDepth 1000000 in
set_option maxHeartbeats 0 in
theorem run_ck1 : Kq.askS lv0.q lv0.x 100 178 ck1 = true := by kernel_rfl
end Go.Proofs.YthknbcbkibbncaaGreat
