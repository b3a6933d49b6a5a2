/- DERIVED. A run of the kernel: known(). -/
import Derived.Test.YthknbcbkibbncaaGreatFa29
set_option linter.all false
namespace Go.Proofs.YthknbcbkibbncaaGreat
open Ev
set_option maxRecDepth 1000000 in
set_option maxHeartbeats 0 in
theorem knownF : Kq.askR lvFc.q lvFc.x 100 56 ⟨[], .b true⟩ = true := by kernel_rfl
end Go.Proofs.YthknbcbkibbncaaGreat
