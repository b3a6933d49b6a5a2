/- DERIVED. A run of the kernel: a call with its memory. -/
import Derived.Test.YthknbcbkibbncaaGreatLi28
import Derived.Test.YthknbcbkibbncaaGreatLi35
set_option linter.all false
namespace Go.Proofs.YthknbcbkibbncaaGreat
open Ev
set_option maxRecDepth 1000000 in
set_option maxHeartbeats 0 in
theorem run_lb6 : Kq.askS lvLa.q lvLa.x 100 32 lb6 = true := by kernel_rfl
end Go.Proofs.YthknbcbkibbncaaGreat
