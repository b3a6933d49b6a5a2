/- DERIVED. A run of the kernel: known(). -/
import Derived.Test.YthknbcbkibbncaaGreatCn17
set_option linter.all false
namespace Go.Proofs.YthknbcbkibbncaaGreat
open Ev
set_option maxRecDepth 1000000 in
set_option maxHeartbeats 0 in
theorem knownC : Kq.askR lvCk.q lvCk.x 100 28 ⟨[], .b true⟩ = true := by kernel_rfl
end Go.Proofs.YthknbcbkibbncaaGreat
