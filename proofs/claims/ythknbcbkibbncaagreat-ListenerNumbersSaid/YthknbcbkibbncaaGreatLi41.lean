/- DERIVED. A run of the kernel: a call with its memory. -/
import Derived.Test.YthknbcbkibbncaaGreatLi38
set_option linter.all false
namespace Go.Proofs.YthknbcbkibbncaaGreat
open Ev
set_option maxRecDepth 1000000 in
set_option maxHeartbeats 0 in
theorem run_lc4 : Kq.askS lvLb.q lvLb.x 100 35 lc4 = true := by kernel_rfl
end Go.Proofs.YthknbcbkibbncaaGreat
