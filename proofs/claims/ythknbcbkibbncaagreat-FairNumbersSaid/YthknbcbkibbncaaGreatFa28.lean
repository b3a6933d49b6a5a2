/- DERIVED. A run of the kernel: a call with its memory. -/
import Derived.Test.YthknbcbkibbncaaGreatFa20
import Derived.Test.YthknbcbkibbncaaGreatFa27
set_option linter.all false
namespace Go.Proofs.YthknbcbkibbncaaGreat
open Ev
set_option maxRecDepth 1000000 in
set_option maxHeartbeats 0 in
theorem run_fb3 : Kq.askS lvFa.q lvFa.x 100 45 fb3 = true := by kernel_rfl
end Go.Proofs.YthknbcbkibbncaaGreat
