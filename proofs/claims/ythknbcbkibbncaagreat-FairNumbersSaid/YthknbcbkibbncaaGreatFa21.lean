/- DERIVED. A run of the kernel: Chance(8). -/
import Derived.Test.YthknbcbkibbncaaGreatFa20
set_option linter.all false
namespace Go.Proofs.YthknbcbkibbncaaGreat
open Ev
set_option maxRecDepth 1000000 in
set_option maxHeartbeats 0 in
theorem chance8 : Kq.askR lv0.q lv0.x 100 110 ⟨[nU 8], .b false⟩ = true := by kernel_rfl
end Go.Proofs.YthknbcbkibbncaaGreat
