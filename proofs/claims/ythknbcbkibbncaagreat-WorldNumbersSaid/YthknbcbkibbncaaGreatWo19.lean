/- DERIVED. A run of the kernel: known(). -/
import Derived.Test.YthknbcbkibbncaaGreatWo18
set_option linter.all false
namespace Go.Proofs.YthknbcbkibbncaaGreat
open Ev
set_option maxRecDepth 1000000 in
set_option maxHeartbeats 0 in
theorem knownW : Kq.askR lvWm.q lvWm.x 100 50 ⟨[], .b true⟩ = true := by kernel_rfl
end Go.Proofs.YthknbcbkibbncaaGreat
